/-
  What Retain leaves of a log in order, where the disk does not fail; plain. (Of the logs' seat.)
-/
import Derived.Test.YtdjmifaidgbbaaaGreatDoorLc39
import Derived.Test.YtdjmifaidgbbaaaGreatDoorLc34
import Derived.Test.YtdjmifaidgbbaaaGreatDoorLc37
import Derived.Deep.CutBlock
import Derived.Test.YtdjmifaidgbbaaaGreatDoorLc27
import Derived.Test.YtdjmifaidgbbaaaGreatDoorLc14
set_option linter.unusedSimpArgs false
set_option linter.unusedVariables false
namespace Go.Proofs.YtdjmifaidgbbaaaGreatDoor
open Go.RowKit Go.Lib

theorem LgOk.restart {d : Dk} {g : Lg} {xs : List SgB} (h : LgOk d g xs) (m : Int) (h1 : ∀ x, xs.head? = some x → x.1.base ≤ m) (h2 : m ≤ g.stop) : LgOk d { g with start := m } xs :=
  ⟨h.segs, h.ne, h.each, h.line, h.only, h.kn, h.ok, h1, h2⟩
theorem stop_tail (g : Lg) (s0 s1 : Sg) (r : List Sg) (h : g.segs = s0 :: s1 :: r) : ({ g with segs := s1 :: r } : Lg).stop = g.stop := by
  unfold Lg.stop Lg.last
  rw [h]
  simp
/-- The first segment is taken away. -/
theorem drop_step {d : Dk} {g : Lg} {x0 x1 : SgB} {r : List SgB} (h : LgOk d g (x0 :: x1 :: r)) (hl : d.left = -1) (hb : x1.1.base ≤ g.start) :
    d.remove x0.1.name = (0, d.del x0.1.name) ∧ LgOk (d.del x0.1.name) { g with segs := (x1 :: r).map (·.1) } (x1 :: r) := by
  have h0 := h.each x0 (by simp)
  obtain ⟨sf, hf⟩ := h0.fl
  have hsg : g.segs = x0.1 :: x1.1 :: r.map (·.1) := h.segs
  have hlt := h0.of.lt_next h.line.2.1
  have hne : ∀ y ∈ x1 :: r, y.1.name ≠ x0.1.name := fun y hy e => by
    have hy' := h.each y (List.mem_cons_of_mem _ hy)
    rw [hy'.nm, h0.nm] at e
    have h1 := segName_inj (by have := hy'.hi; omega) (by have := h0.hi; omega) e
    have h2 : x0.1.next ≤ y.1.base := by
      obtain ⟨i, hi, hie⟩ := List.getElem_of_mem hy
      have h3 := lined_take h.of h.line (i + 1) (by simpa using hi) x0 (by simp)
      have h4 : ((x0 :: x1 :: r)[i + 1]'(by simpa using hi)) = y := hie
      rw [h4] at h3
      exact h3
    have := hy'.lo
    have := h0.lo
    omega
  refine ⟨?_, ⟨rfl, by simp, fun y hy => ?_, h.line.2.2, fun n hn hs => ?_, h.kn, h.ok.del _, fun y hy => ?_, ?_⟩⟩
  · unfold Dk.remove Dk.at
    rw [if_neg (by rw [does_true hl]; simp), hf, step_same hl]
  · exact (h.each y (List.mem_cons_of_mem _ hy)).other (by rw [find_del, if_neg (hne y hy)])
  · have hs : ((d.del x0.1.name).find (segName g.dir n)).isSome = true := hs
    rw [find_del] at hs
    split at hs
    · cases hs
    · next hnn =>
      obtain ⟨y, hy, hyb⟩ := h.only n hn hs
      rcases List.mem_cons.1 hy with rfl | hy
      · exfalso
        apply hnn
        rw [h0.nm, hyb, Int.toNat_natCast]
      · exact ⟨y, hy, hyb⟩
  · obtain rfl := Option.some.inj hy
    exact hb
  · have e := stop_tail g x0.1 x1.1 (r.map (·.1)) hsg
    show g.start ≤ ({ g with segs := x1.1 :: r.map (·.1) } : Lg).stop
    rw [e]
    exact h.hi
theorem del_left (d : Dk) (x : Nm) : (d.del x).left = d.left ∧ (d.del x).room = d.room := ⟨rfl, rfl⟩
theorem del_len (d : Dk) (x : Nm) : (d.del x).fs.length ≤ d.fs.length := List.length_filter_le _ _
structure Less (d d' : Dk) (g g' : Lg) : Prop where
  stop : g'.stop = g.stop
  dir : g'.dir = g.dir
  most : g'.most = g.most
  down : g'.down = g.down
  left : d'.left = -1
  room : d'.room = d.room
  used : d'.used ≤ d.used
  files : d'.fs.length ≤ d.fs.length
theorem ret_ok {now age bytes : Int} : ∀ (xs : List SgB) {d : Dk} {g : Lg}, LgOk d g xs → d.left = -1 → (∀ x, xs.head? = some x → g.start = x.1.base) → ∀ (f n : Nat), xs.length ≤ f →
    ∃ k d' g', retGo now age bytes f n d g = (0, n + k, d', g') ∧ k < xs.length ∧ LgOk d' g' (xs.drop k) ∧ (∀ x, (xs.drop k).head? = some x → g'.start = x.1.base) ∧ Less d d' g g'
  | [], d, g, h, _, _, _, _, _ => absurd rfl h.ne
  | [x], d, g, h, hl, hs, f, n, hf => ⟨0, d, g, ret_one (by rw [h.len]; simp), by simp, h, hs, rfl, rfl, rfl, rfl, hl, rfl, Nat.le_refl _, Nat.le_refl _⟩
  | x0 :: x1 :: r, d, g, h, hl, hs, f, n, hf => by
    obtain ⟨f, rfl⟩ : ∃ f2, f = f2 + 1 := ⟨f - 1, by simp only [List.length_cons] at hf; omega⟩
    have hsg : g.segs = x0.1 :: x1.1 :: r.map (·.1) := h.segs
    rw [ret_two hsg]
    by_cases hc : (oldSg now age x0.1 || muchSg bytes g.segs x0.1) = true
    · rw [if_pos hc]
      have hst := hs x0 rfl
      have hlt := (h.of x0 (by simp)).lt_next h.line.2.1
      have hb1 : x1.1.base = x0.1.next := h.line.1
      have hmax : max g.start x1.1.base = x1.1.base := by omega
      have hstop : x1.1.base ≤ g.stop := by
        have h1 := h.next_le x1 (by simp)
        have h2 := (h.of x1 (by simp)).base_next
        omega
      rw [hmax]
      have h1 : LgOk d { g with start := x1.1.base } (x0 :: x1 :: r) := h.restart _ (fun x hx => by obtain rfl := Option.some.inj hx; omega) hstop
      obtain ⟨hrm, h2⟩ := drop_step h1 hl (Int.le_refl _)
      have hgo : ({ ({ g with start := x1.1.base } : Lg) with segs := (x1 :: r).map (·.1) } : Lg).goes = false := by
        unfold Lg.goes
        rcases r with _ | ⟨x2, r⟩
        · rfl
        · have h3 := (h.of x1 (by simp)).lt_next h.line.2.2.2.1
          have h4 : x2.1.base = x1.1.next := h.line.2.2.1
          show decide (x2.1.base ≤ x1.1.base) = false
          exact decide_eq_false (by omega)
      have hdr : dropLg d { g with start := x1.1.base } = (0, d.del x0.1.name, { ({ g with start := x1.1.base } : Lg) with segs := (x1 :: r).map (·.1) }) := by
        rw [drop_go (g := { g with start := x1.1.base }) hsg (Int.le_refl _), hrm, if_pos rfl]
        exact drop_stay hgo
      rw [hdr, if_pos rfl]
      have hst2 := stop_tail ({ g with start := x1.1.base } : Lg) x0.1 x1.1 (r.map (·.1)) hsg
      obtain ⟨k, d', g', e1, e2, e3, e4, e5⟩ := ret_ok (now := now) (age := age) (bytes := bytes) (x1 :: r) h2 (by rw [(del_left d x0.1.name).1]; exact hl) (fun x hx => by obtain rfl := Option.some.inj hx; rfl) f (n + 1) (by simp only [List.length_cons] at hf ⊢; omega)
      refine ⟨k + 1, d', g', ?_, by simp only [List.length_cons] at e2 ⊢; omega, ?_, ?_, ⟨?_, e5.dir, e5.most, e5.down, e5.left, e5.room, Nat.le_trans e5.used (used_filter d _), Nat.le_trans e5.files (del_len d _)⟩⟩
      · show retGo now age bytes f (n + 1) _ _ = _
        rw [e1, Nat.add_assoc, Nat.add_comm 1 k]
      · rw [List.drop_succ_cons]; exact e3
      · rw [List.drop_succ_cons]; exact e4
      · rw [e5.stop]
        exact hst2
    · rw [if_neg hc]
      exact ⟨0, d, g, rfl, by simp, h, hs, rfl, rfl, rfl, rfl, hl, rfl, Nat.le_refl _, Nat.le_refl _⟩
theorem LgOk.fit {d : Dk} {g : Lg} {xs : List SgB} (h : LgOk d g xs) (hdir : g.dir.length ≤ 100) : SegsFit g.segs := by
  intro s hs
  rw [h.segs] at hs
  obtain ⟨x, hx, rfl⟩ := List.mem_map.1 hs
  have hin := h.each x hx
  have hfw := h.few x hx
  refine ⟨?_, by omega, ?_⟩
  · rw [hin.nm]
    exact segName_len ⟨g.dir.toArray⟩ _ (by show g.dir.toArray.size ≤ 100; simp; exact hdir) (by have := hin.hi; omega)
  · obtain ⟨sf, hf⟩ := hin.fl
    have h2 := used_le hf
    have h3 := h.ok.fits
    have h4 := h.ok.room
    have h2 : (batBs x.2).length ≤ d.used := h2
    rw [hin.of.size]
    omega
/-- All that there is, where the start is the first segment's. -/
theorem LgOk.told_all {d : Dk} {g : Lg} {xs : List SgB} (h : LgOk d g xs) (hs : ∀ x, xs.head? = some x → g.start = x.1.base) : recsFrom g.start (allBts xs) = recsOf (allBts xs) := by
  have hu : chainUp g.start xs := lined_up h.of h.line (fun x hx => by rw [hs x hx]; exact Int.le_refl _)
  obtain ⟨h1, h2⟩ := chainUp_rising h.of hu
  exact recsFrom_high h2 (rising_mem h2 h1)
end Go.Proofs.YtdjmifaidgbbaaaGreatDoor

/-
  Whether two rows of numbers are the same. (Of the logs' seat.)
-/
set_option linter.unusedSimpArgs false
set_option linter.unusedVariables false
namespace Go.Proofs.YtdjmifaidgbbaaaGreatDoor
open Go.RowKit Go.Maps

/-- A slice's first cells are these numbers (nil: there are none). -/
def IntsAt (w : World) (a : Option Addr) (l : List Int) : Prop := ∀ i (h : i < l.length), ∃ b off, a = some ⟨b, off, none⟩ ∧ w.cell? ⟨b, off + i, none⟩ = some (.int .i64 l[i])
theorem IntsAt.chg {S : Nat → Prop} {w w' : World} {a : Option Addr} {l : List Int} (hb : IntsAt w a l) (h : Chg S w w') (hn : ∀ x, a = some x → ¬ S x.block) : IntsAt w' a l := by
  intro i hi
  obtain ⟨b, off, ha, hc⟩ := hb i hi
  exact ⟨b, off, ha, h.cell hc (show ¬ S b from hn ⟨b, off, none⟩ ha)⟩
theorem OwnZ.ints {w : World} {a : Option Addr} {n c : Nat} {l : List Int} (h : OwnZ w (.slice a n c) l) : IntsAt w a l := by
  obtain ⟨a', c', he, _, hc⟩ := h.val
  obtain ⟨rfl, _, _⟩ := Value.slice.inj he
  intro i hi
  obtain ⟨g, hg, hz⟩ := hc i hi
  exact ⟨g, 0, hg, by rw [Nat.zero_add]; exact hz⟩
theorem IntsAt.drop {w : World} {b off : Nat} {l : List Int} (h : IntsAt w (some ⟨b, off, none⟩) l) (k : Nat) : IntsAt w (some ⟨b, off + k, none⟩) (l.drop k) := by
  intro i hi
  rw [List.length_drop] at hi
  obtain ⟨b', o', he, hc⟩ := h (k + i) (by omega)
  obtain ⟨rfl, rfl, _⟩ := Addr.mk.inj (Option.some.inj he)
  refine ⟨b, off + k, rfl, ?_⟩
  rw [List.getElem_drop, Nat.add_assoc]
  exact hc

theorem take_eq {l m : List Int} {i : Nat} (h : l.take i = m.take i) (hl : i < l.length) (hm : i < m.length) (e : l[i] = m[i]) : l.take (i + 1) = m.take (i + 1) := by
  rw [List.take_succ_eq_append_getElem hl, List.take_succ_eq_append_getElem hm, h, e]

set_option maxHeartbeats 1000000 in
set_option maxRecDepth 100000 in
theorem sameInts_any (a b : Option Addr) (l m : List Int) (c d : Nat) (w : World) (hl : l.length ≤ 1000000) (hm : m.length ≤ 1000000) (ha : IntsAt w a l) (hb : IntsAt w b m) :
    Calls Tryz.prog 19 #[.slice a l.length c, .slice b m.length d] w fun e w' => e = .returned (.bool (decide (l = m))) ∧ Chg Nil w w' := by
  have HA := Lib.hid ha
  have HB := Lib.hid hb
  clear ha hb
  go_enter Tryz.func19, Tryz.ntmps19
  by_cases hlm : l.length = m.length
  · have hli : (l.length : Int) = (m.length : Int) := by omega
    go_wp2_with fail
    go_loopw [5] (fun i wr => ∃ (wq : World) (k : Nat), wq = wr ∧ k ≤ l.length ∧ i = .int .i64 k ∧ Chg Nil w wr ∧ Hid (l.take k = m.take k)) (fun i _ => l.length - (RowKit.intOf i).toNat)
    case atStart => exact ⟨_, 0, rfl, by omega, rfl, Chg.refl _ _, rfl⟩
    case round =>
      obtain ⟨wr, k, rfl, hk, rfl, hc, HT⟩ := hrel
      by_cases hkl : k < l.length
      · have hki : (k : Int) < (l.length : Int) := by omega
        have hkm : (k : Int) < (m.length : Int) := by omega
        have hkm' : k < m.length := by omega
        obtain ⟨b1, o1, rfl, h1⟩ := HA.out k hkl
        obtain ⟨b2, o2, rfl, h2⟩ := HB.out k hkm'
        have y1 := hc.cell h1 (fun h => h)
        have y2 := hc.cell h2 (fun h => h)
        have HLA : Hid (l[k] = l[k]) := rfl
        obtain ⟨x, hx⟩ : ∃ x, x = l[k] := ⟨_, rfl⟩
        obtain ⟨y, hy⟩ : ∃ y, y = m[k] := ⟨_, rfl⟩
        rw [← hx] at y1
        rw [← hy] at y2
        have HX := Lib.hid hx
        have HY := Lib.hid hy
        clear h1 h2 hx hy
        by_cases hxy : x = y
        · go_upto_region 6 with fail
          go_quiet (fail)
          go_wp2_with fail
          go_roundw
          case rel => exact ⟨_, k + 1, rfl, by omega, by go_num, hc.drewN _, take_eq HT.out hkl hkm' (by rw [← HX.out, ← HY.out, hxy])⟩
          case measure => simp [RowKit.intOf]; omega
        · go_upto_region 6 with fail
          go_quiet (fail)
          go_wp2_with fail
          go_ret
          refine ⟨?_, hc.drewN _⟩
          have : ¬ l = m := fun e => by subst e; exact hxy (by rw [HX.out, HY.out])
          simp [this]
      · have hki : ¬ (k : Int) < (l.length : Int) := by omega
        obtain rfl : k = l.length := by omega
        go_wp2_with fail
        go_ret
        refine ⟨?_, hc⟩
        have h := HT.out
        rw [List.take_length, hlm, List.take_length] at h
        simp [h]
  · have hli : ¬ (l.length : Int) = (m.length : Int) := by omega
    go_wp2_with fail
    go_ret
    have : ¬ l = m := fun e => hlm (by rw [e])
    exact ⟨by simp [this], Chg.refl _ _⟩
end Go.Proofs.YtdjmifaidgbbaaaGreatDoor

/-
  A log with what it has: Retain, Segments; what it tells. (Of the logs' seat.)
-/
set_option linter.unusedSimpArgs false
set_option linter.unusedVariables false
namespace Go.Proofs.YtdjmifaidgbbaaaGreatDoor
open Go.RowKit Go.Maps

def headIs (n : Int) (xs : List SgB) : Prop := ∀ x, xs.head? = some x → n = x.1.base
theorem LgI.head0 {B : Nat → Prop} {w : World} {p l r m : Nat} {g : Lg} {xs : List SgB} (h : LgI B w p l r m g xs) (hs : g.start = 0) : headIs g.start xs := by
  obtain ⟨S, sv, ss, d, _, h2, _⟩ := h
  intro x hx
  have h3 := h2.lo x hx
  have h4 := (h2.each x (List.mem_of_mem_head? hx)).lo
  omega
theorem LgI.toldAll {B : Nat → Prop} {w : World} {p l r m : Nat} {g : Lg} {xs : List SgB} (h : LgI B w p l r m g xs) (hs : headIs g.start xs) : g.told xs = recsOf (allBts xs) := by
  obtain ⟨S, sv, ss, d, _, h2, _⟩ := h
  exact h2.told_all hs
theorem LgI.bOk {B : Nat → Prop} {w : World} {p l r m : Nat} {g : Lg} {xs : List SgB} (h : LgI B w p l r m g xs) : (∀ b ∈ allBts xs, b.Ok) ∧ 0 < xs.length ∧ xs.length ≤ m + 1 ∧ rising 0 (allBts xs) := by
  obtain ⟨S, sv, ss, d, _, h2, _, _, _, _, _, h8⟩ := h
  exact ⟨h2.bts.2, h2.pos, h8, h2.bts.1⟩
theorem LgI.segs {B : Nat → Prop} {w : World} {p l r m : Nat} {g : Lg} {xs : List SgB} (h : LgI B w p l r m g xs) (hm : m ≤ 999) :
    Calls Tryz.prog 17 #[.pointer (some ⟨l, 0, none⟩)] w fun e w' => ∃ v, e = .returned v ∧ OwnZ w' v (xs.map fun x => x.1.base) ∧ (∀ k, v.ownBlock = some k → w.heap.size ≤ k) ∧ Chg Nil w w' := by
  obtain ⟨S, sv, ss, d, h1, h2, h3, h4, h5, h6, h7, h8⟩ := h
  refine (lsegs_any h1.t (by rw [h1.len, h2.len]; omega)).mono ?_
  rintro e w' ⟨v, he, ho, hb, hc⟩
  refine ⟨v, he, ?_, hb, hc⟩
  rw [h2.segs, List.map_map] at ho
  exact ho
theorem LgI.retain {B : Nat → Prop} {w : World} {p l r m : Nat} {g : Lg} {xs : List SgB} (h : LgI B w p l r m g xs) (hs : headIs g.start xs) (hH : Handle w) (hB : B 0) (hdir : g.dir.length ≤ 100) (hm : m ≤ 999) (now age bytes : Int) :
    Calls Tryz.prog 18 #[.pointer (some ⟨l, 0, none⟩), .int .i64 now, .int .i64 age, .int .i64 bytes] w fun e w' => ∃ (k : Nat) (g' : Lg), e = .returned (.tuple #[.int .i64 (k : Nat), .nilIface]) ∧ k < xs.length ∧ LgI B w' p l r m g' (xs.drop k) ∧ headIs g'.start (xs.drop k) ∧ g'.stop = g.stop ∧ g'.dir = g.dir ∧ Chg (Off B) w w' := by
  obtain ⟨S, sv, ss, d, h1, h2, h3, h4, h5, h6, h7, h8⟩ := h
  have hl : ss.length = xs.length := by rw [h1.len, h2.len]
  have hp := h2.pos
  have hR := lretain_any h1 (by omega) (by omega) (h2.fit hdir) hH hB now age bytes
  obtain ⟨k, d', g', e1, e2, e3, e4, e5⟩ := ret_ok (now := now) (age := age) (bytes := bytes) xs h2 h3 hs g.segs.length 0 (by rw [h2.len]; exact Nat.le_refl _)
  have hrl : retLg now age bytes d g = (0, k, d', g') := by
    unfold retLg
    rw [if_neg (by rw [h4]; simp), e1, Nat.zero_add]
  rw [hrl] at hR
  refine hR.mono ?_
  rintro e w' ⟨he, ⟨S', sv', ss', h9, _⟩, hc⟩
  refine ⟨k, g', he, e2, ⟨S', sv', ss', d', h9, e3, e5.left, by rw [e5.down, h4], by rw [e5.room, h5], Nat.le_trans e5.used h6, Nat.le_trans e5.files h7, by rw [List.length_drop]; omega⟩, e4, e5.stop, e5.dir, hc⟩
theorem allBts_split (xs : List SgB) (k : Nat) : recsOf (allBts xs) = recsOf (allBts (xs.take k)) ++ recsOf (allBts (xs.drop k)) := by
  conv => lhs; rw [← List.take_append_drop k xs]
  rw [allBts_append, recsOf_append]
end Go.Proofs.YtdjmifaidgbbaaaGreatDoor

/-
  What Compact makes of a log in order, plain. (Of the logs' seat.)
-/
set_option linter.unusedSimpArgs false
set_option linter.unusedVariables false
namespace Go.Proofs.YtdjmifaidgbbaaaGreatDoor
open Go.RowKit Go.Lib

/-! ### the map of last offsets -/
def lastPut (m : List (Nm × Int)) (r : Rec) : List (Nm × Int) := if r.keyed = true then (m.filter fun p => decide (p.1 ≠ r.key.data.toList)) ++ [(r.key.data.toList, r.off)] else m
def lastOf (l : List Rec) : List (Nm × Int) := l.foldl lastPut []
theorem lastOf_snoc (l : List Rec) (r : Rec) : lastOf (l ++ [r]) = lastPut (lastOf l) r := by unfold lastOf; rw [List.foldl_append]; rfl
theorem lastOf_append (l m : List Rec) : lastOf (l ++ m) = m.foldl lastPut (lastOf l) := by unfold lastOf; rw [List.foldl_append]
theorem lastPut_look (m : List (Nm × Int)) (r : Rec) (x : Nm) : (lastPut m r).lookup x = if r.keyed = true ∧ x = r.key.data.toList then some r.off else m.lookup x := by
  unfold lastPut
  by_cases h : r.keyed = true
  · rw [if_pos h, lookup_put]
    by_cases h2 : x = r.key.data.toList
    · rw [if_pos h2, if_pos ⟨h, h2⟩]
    · rw [if_neg h2, if_neg (fun k => h2 k.2)]
  · rw [if_neg h, if_neg (fun k => h k.1)]
theorem snocInd {α : Type} {P : List α → Prop} (h0 : P []) (h1 : ∀ l a, P l → P (l ++ [a])) : ∀ l, P l := by
  intro l
  have key : ∀ (r l : List α), P l → P (l ++ r) := by
    intro r
    induction r with
    | nil => intro l h; rw [List.append_nil]; exact h
    | cons a r ih =>
      intro l h
      have := ih (l ++ [a]) (h1 l a h)
      rw [List.append_assoc] at this
      exact this
  have := key l [] h0
  rwa [List.nil_append] at this
/-- The map's number is that of one of the records with this key. -/
theorem lastOf_some : ∀ (l : List Rec) {x : Nm} {n : Int}, (lastOf l).lookup x = some n → ∃ r ∈ l, r.keyed = true ∧ r.key.data.toList = x ∧ r.off = n := by
  refine snocInd ?_ ?_
  · intro x n h; cases h
  · intro l a ih x n h
    rw [lastOf_snoc, lastPut_look] at h
    split at h
    · next hc => exact ⟨a, by simp, hc.1, hc.2.symm, Option.some.inj h⟩
    · obtain ⟨r, hr, h2⟩ := ih h
      exact ⟨r, by simp [hr], h2⟩
theorem offUp_left : ∀ {n : Int} {a b : List Rec}, offUp n (a ++ b) → offUp n a
  | _, [], _, _ => trivial
  | _, _ :: _, _, h => ⟨h.1, offUp_left h.2⟩
theorem offUp_right : ∀ {n : Int} {a b : List Rec}, offUp n (a ++ b) → offUp n b
  | _, [], _, h => h
  | n, r :: a, b, h => offUp_le (offUp_right (a := a) h.2) (by have := h.1; omega)
theorem offUp_before : ∀ {n : Int} {a b : List Rec}, offUp n (a ++ b) → ∀ x ∈ a, ∀ y ∈ b, x.off < y.off
  | _, [], _, _, x, hx, _, _ => by cases hx
  | n, r :: a, b, h, x, hx, y, hy => by
    rcases List.mem_cons.1 hx with rfl | hx
    · have := offUp_mem h.2 y (List.mem_append_right _ hy)
      omega
    · exact offUp_before h.2 x hx y hy
/-- No record with this key has a greater one. -/
theorem lastOf_max : ∀ (l : List Rec) {n : Int}, offUp n l → ∀ r ∈ l, r.keyed = true → ∃ m, (lastOf l).lookup r.key.data.toList = some m ∧ r.off ≤ m := by
  refine snocInd ?_ ?_
  · intro n _ r hr; cases hr
  · intro l a ih n hu r hr hk
    rw [lastOf_snoc, lastPut_look]
    by_cases hc : a.keyed = true ∧ r.key.data.toList = a.key.data.toList
    · rw [if_pos hc]
      refine ⟨_, rfl, ?_⟩
      rcases List.mem_append.1 hr with hr | hr
      · have := offUp_before hu r hr a (by simp)
        omega
      · rw [List.mem_singleton.1 hr]; exact Int.le_refl _
    · rw [if_neg hc]
      rcases List.mem_append.1 hr with hr | hr
      · exact ih (offUp_left hu) r hr hk
      · exfalso
        have e := List.mem_singleton.1 hr
        subst e
        exact hc ⟨hk, rfl⟩
theorem offUp_sub : ∀ {a b : List Rec} {n : Int}, a.Sublist b → offUp n b → offUp n a
  | _, _, _, .slnil, _ => trivial
  | _, _, n, .cons x h, hb => offUp_le (offUp_sub h hb.2) (by have := hb.1; omega)
  | _, _, _, .cons_cons x h, hb => ⟨hb.1, offUp_sub h hb.2⟩
theorem offUp_filter (q : Rec → Bool) : ∀ {n : Int} {l : List Rec}, offUp n l → offUp n (l.filter q)
  | _, [], _ => trivial
  | n, a :: l, h => by
    by_cases ha : q a = true
    · rw [List.filter_cons_of_pos ha]; exact ⟨h.1, offUp_filter q h.2⟩
    · rw [List.filter_cons_of_neg ha]; exact offUp_le (offUp_filter q h.2) (by have := h.1; omega)
theorem keep_iff {fs : List (Nm × Int)} {lim : Int} {r : Rec} : keepR fs lim r = true ↔ (r.keyed = false ∨ (¬ r.off < (fs.lookup r.key.data.toList).getD 0 ∧ (r.gone && decide (r.time < lim)) = false)) := by
  unfold keepR goneR
  cases r.keyed <;> cases r.gone <;> simp
/-- What is kept is kept again. -/
theorem kept_again {A Z : List Rec} {n lim : Int} (hu : offUp n (A ++ Z)) : (A.filter (keepR (lastOf (A ++ Z)) lim)).filter (keepR (lastOf (A.filter (keepR (lastOf (A ++ Z)) lim) ++ Z)) lim) = A.filter (keepR (lastOf (A ++ Z)) lim) := by
  rw [List.filter_eq_self]
  intro r hr
  have hrA := (List.mem_filter.1 hr).1
  have hk := keep_iff.1 (List.mem_filter.1 hr).2
  refine keep_iff.2 ?_
  rcases hk with hk | ⟨hk, hk2⟩
  · exact .inl hk
  by_cases hkd : r.keyed = true
  · refine .inr ⟨?_, hk2⟩
    obtain ⟨m, hm, hle⟩ := lastOf_max _ hu r (by simp [hrA]) hkd
    rw [hm] at hk
    have hk1 : ¬ r.off < m := hk
    have hu2 : offUp n (A.filter (keepR (lastOf (A ++ Z)) lim) ++ Z) := offUp_sub (List.Sublist.append List.filter_sublist (List.Sublist.refl _)) hu
    obtain ⟨m2, hm2, _⟩ := lastOf_max _ hu2 r (List.mem_append_left _ hr) hkd
    obtain ⟨y, hy, hyk, hyx, hyo⟩ := lastOf_some _ hm2
    rw [hm2]
    have hyAZ : y ∈ A ++ Z := by
      rcases List.mem_append.1 hy with hy | hy
      · exact List.mem_append_left _ (List.mem_filter.1 hy).1
      · exact List.mem_append_right _ hy
    obtain ⟨m3, hm3, hle3⟩ := lastOf_max _ hu y hyAZ hyk
    rw [hyx, hm] at hm3
    obtain rfl := Option.some.inj hm3
    show ¬ r.off < m2
    omega
  · exact .inl (by simpa using hkd)
end Go.Proofs.YtdjmifaidgbbaaaGreatDoor

/-
  What Rewrite makes of a disk of many files, plain: where it is done; where the disk does not fail. (Of the logs' seat.)
-/
set_option linter.unusedSimpArgs false
set_option linter.unusedVariables false
namespace Go.Proofs.YtdjmifaidgbbaaaGreatDoor
open Go.RowKit Go.Lib

/-! ### an operation that is done -/
theorem step_find (d : Dk) (x : Nm) : d.step.find x = d.find x := rfl
theorem at_done {d : Dk} {x : Nm} {g : Fl → Nat × (Dk → Dk)} (h : (d.at x g).1 = 0) : ∃ f, d.find x = some f ∧ (g f).1 = 0 ∧ (d.at x g).2 = (g f).2 d.step := by
  unfold Dk.at at h ⊢
  by_cases hd : d.does = false
  · rw [if_pos hd] at h; cases h
  rw [if_neg hd] at h ⊢
  cases hf : d.find x with
  | none => rw [hf] at h; cases h
  | some f => rw [hf] at h; exact ⟨f, rfl, h, rfl⟩
theorem make_done {d : Dk} {x : Nm} (h : (d.make x).1 = 0) : d.find x = none ∧ dkName x = true ∧ (d.make x).2 = d.step.put x ⟨[], 0⟩ := by
  unfold Dk.make at h ⊢
  by_cases h1 : d.does = false
  · rw [if_pos h1] at h; cases h
  rw [if_neg h1] at h ⊢
  by_cases h2 : dkName x = false
  · rw [if_pos h2] at h; cases h
  rw [if_neg h2] at h ⊢
  by_cases h3 : (d.find x).isSome = true
  · rw [if_pos h3] at h; cases h
  rw [if_neg h3] at h ⊢
  by_cases h4 : d.fs.length = 200
  · rw [if_pos h4] at h; cases h
  rw [if_neg h4]
  exact ⟨by simpa using h3, by simpa using h2, rfl⟩
theorem add_done {d : Dk} {x : Nm} {b : List UInt8} (h : (d.add x b).1 = 0) : ∃ f, d.find x = some f ∧ (d.add x b).2 = d.step.turn x ⟨f.bytes ++ b, f.safe⟩ := by
  obtain ⟨f, hf, hg, he⟩ := at_done h
  refine ⟨f, hf, ?_⟩
  have he : (d.add x b).2 = _ := he
  rw [he]
  by_cases hr : d.room < d.used + b.length
  · simp only [if_pos hr] at hg; cases hg
  · simp only [if_neg hr]
theorem sync_done {d : Dk} {x : Nm} (h : (d.sync x).1 = 0) : ∃ f, d.find x = some f ∧ (d.sync x).2 = d.step.turn x ⟨f.bytes, f.bytes.length⟩ := by
  obtain ⟨f, hf, _, he⟩ := at_done h
  exact ⟨f, hf, he⟩
theorem remove_done {d : Dk} {x : Nm} (h : (d.remove x).1 = 0) : ∃ f, d.find x = some f ∧ (d.remove x).2 = d.step.del x := by
  obtain ⟨f, hf, _, he⟩ := at_done h
  exact ⟨f, hf, he⟩
theorem rename_done {d : Dk} {x y : Nm} (h : (d.rename x y).1 = 0) : ∃ f, d.find x = some f ∧ (d.rename x y).2 = (d.step.del x).put y f := by
  obtain ⟨f, hf, hg, he⟩ := at_done h
  refine ⟨f, hf, ?_⟩
  have he : (d.rename x y).2 = _ := he
  rw [he]
  by_cases hr : dkName y = false
  · simp only [if_pos hr] at hg; cases hg
  · simp only [if_neg hr]
/-- What is done: the file has these batches, no other one is touched, none is left beside it. -/
structure RewD (d d' : Dk) (g g' : Sg) (nm2 : Nm) (l : List Bt) : Prop where
  has : d'.has g.name (batBs l)
  same : ∀ y, y ≠ g.name → y ≠ nm2 → d'.find y = d.find y
  gone : d'.find nm2 = none
  of : SgOf g' l
  name : g'.name = g.name
  base : g'.base = g.base
theorem rew2_done {nm2 : Nm} {g : Sg} : ∀ (l done : List Bt) (d : Dk) (gt : Sg), gt.name = nm2 → d.has nm2 (batBs done) → SgOf gt done → (∀ b ∈ l, b.Ok) → rising (lastEnd gt.base done) l → (rew2 d g gt l).1 = 0 →
    ∃ d' gt', rew2 d g gt l = rew3 d' g gt' ∧ d'.has nm2 (batBs (done ++ l)) ∧ (∀ y, y ≠ nm2 → d'.find y = d.find y) ∧ SgOf gt' (done ++ l) ∧ gt'.name = nm2 ∧ gt'.base = gt.base
  | [], done, d, gt, hnm, hd, hg, _, _, _ => ⟨d, gt, rfl, by rw [List.append_nil]; exact hd, fun _ _ => rfl, by rw [List.append_nil]; exact hg, hnm, rfl⟩
  | b :: l, done, d, gt, hnm, hd, hg, hok, hr, h => by
    have hb := hok b (List.mem_cons_self ..)
    have hn : gt.next ≤ b.base := by rw [hg.next]; exact hr.1
    have e1 : rew2 d g gt (b :: l) = if (addSg d gt b.base b.en b.rs).1 = 0 then rew2 (addSg d gt b.base b.en b.rs).2.1 g (addSg d gt b.base b.en b.rs).2.2 l else ((addSg d gt b.base b.en b.rs).1, ((addSg d gt b.base b.en b.rs).2.1.remove gt.name).2, g) := rfl
    rw [e1] at h ⊢
    by_cases h0 : (addSg d gt b.base b.en b.rs).1 = 0
    · rw [if_pos h0] at h ⊢
      rw [addSg_ok hb hn] at h0 h ⊢
      by_cases ha : (d.add gt.name b.bytes).1 = 0
      · rw [if_pos ha] at h ⊢
        obtain ⟨f, hf, he⟩ := add_done ha
        rw [hnm] at hf he
        obtain ⟨s, hs⟩ := hd
        rw [hs] at hf
        obtain rfl := Option.some.inj hf
        have h4 : ((d.add gt.name b.bytes).2).has nm2 (batBs (done ++ [b])) := by
          rw [hnm, he, batBs_snoc]
          exact ⟨_, by rw [find_turn, if_pos rfl, step_find, hs]; rfl⟩
        have h3 := hg.noted hb hn
        obtain ⟨d', gt', k1, k2, k3, k4, k5, k6⟩ := rew2_done l (done ++ [b]) (d.add gt.name b.bytes).2 (gt.noted b.base b.en b.rs b.bytes.length) hnm h4 h3 (fun c hc => hok c (List.mem_cons_of_mem _ hc)) (by rw [lastEnd_snoc]; exact hr.2) h
        have e2 : done ++ b :: l = done ++ [b] ++ l := by simp
        rw [e2]
        refine ⟨d', gt', k1, k2, fun y hy => ?_, k4, k5, k6⟩
        rw [k3 y hy, hnm, he, find_turn, if_neg hy, step_find]
      · rw [if_neg ha] at h0
        exact absurd h0 ha
    · rw [if_neg h0] at h
      exact absurd h h0
theorem rew_done {d : Dk} {g : Sg} {nm2 : Nm} {l : List Bt} (hne : nm2 ≠ g.name) (hok : ∀ b ∈ l, b.Ok) (hr : rising g.base l) (h : (rewL d g nm2 l).1 = 0) : RewD d (rewL d g nm2 l).2.1 g (rewL d g nm2 l).2.2 nm2 l := by
  obtain ⟨d0, hd0⟩ : ∃ d0, (rew0 d nm2).2 = d0 := ⟨_, rfl⟩
  have h0 : (rew0 d nm2).1 = 0 := by
    by_cases h0 : (rew0 d nm2).1 = 0
    · exact h0
    · unfold rewL at h; rw [if_neg h0] at h; exact absurd h h0
  have e0 : rewL d g nm2 l = rew1 d0 g nm2 l := by unfold rewL; rw [if_pos h0, hd0]
  have hs0 : ∀ y, y ≠ nm2 → d0.find y = d.find y := by
    intro y hy
    rw [← hd0]
    unfold rew0 at h0 ⊢
    by_cases hz : 0 ≤ d.size nm2
    · rw [if_pos hz] at h0 ⊢
      obtain ⟨f, _, he⟩ := remove_done h0
      rw [he, find_del, if_neg hy, step_find]
    · rw [if_neg hz]
  rw [e0] at h ⊢
  have h1 : (d0.make nm2).1 = 0 := by
    by_cases h1 : (d0.make nm2).1 = 0
    · exact h1
    · unfold rew1 at h; rw [if_neg h1] at h; exact absurd h h1
  have e1 : rew1 d0 g nm2 l = rew2 (d0.make nm2).2 g ⟨nm2, g.base, [], 0⟩ l := by unfold rew1; rw [if_pos h1]
  obtain ⟨_, _, hm⟩ := make_done h1
  rw [e1] at h ⊢
  obtain ⟨d2, gt, e2, k2, k3, k4, k5, k6⟩ := rew2_done l [] (d0.make nm2).2 ⟨nm2, g.base, [], 0⟩ rfl ⟨0, by rw [hm, find_put, if_pos rfl]; rfl⟩ ⟨rfl, rfl, fun b hb => (by cases hb), trivial⟩ hok hr h
  rw [e2] at h ⊢
  rw [List.nil_append] at k2 k4
  have h3 : (d2.sync gt.name).1 = 0 := by
    by_cases h3 : (d2.sync gt.name).1 = 0
    · exact h3
    · unfold rew3 at h; rw [if_neg h3] at h; exact absurd h h3
  have e3 : rew3 d2 g gt = rew4 (d2.sync gt.name).2 g gt := by unfold rew3; rw [if_pos h3]
  rw [e3] at h ⊢
  obtain ⟨f3, hf3, hsy⟩ := sync_done h3
  have h4 : ((d2.sync gt.name).2.rename gt.name g.name).1 = 0 := by
    by_cases h4 : ((d2.sync gt.name).2.rename gt.name g.name).1 = 0
    · exact h4
    · unfold rew4 at h; rw [if_neg h4] at h; exact absurd h h4
  have e4 : rew4 (d2.sync gt.name).2 g gt = (0, ((d2.sync gt.name).2.rename gt.name g.name).2, { g with pls := gt.pls, size := gt.size }) := by unfold rew4; rw [if_pos h4]
  rw [e4]
  obtain ⟨f4, hf4, hrn⟩ := rename_done h4
  rw [k5] at hf3 hsy hf4 hrn
  obtain ⟨s2, hs2⟩ := k2
  rw [hs2] at hf3
  obtain rfl := Option.some.inj hf3
  rw [hsy, find_turn, if_pos rfl, step_find, hs2] at hf4
  obtain rfl := Option.some.inj hf4
  refine ⟨⟨(batBs l).length, ?_⟩, fun y hy hy2 => ?_, ?_, ⟨k4.pls, k4.size, k4.ok, hr⟩, rfl, rfl⟩
  · show (((d2.sync gt.name).2.rename gt.name g.name).2).find g.name = _
    rw [k5, hrn, find_put, if_pos rfl]
  · show (((d2.sync gt.name).2.rename gt.name g.name).2).find y = _
    rw [k5, hrn, find_put, if_neg hy, find_del, if_neg hy2, step_find, hsy, find_turn, if_neg hy2, step_find, k3 y hy2, hm, find_put, if_neg hy2, step_find, hs0 y hy2]
  · show (((d2.sync gt.name).2.rename gt.name g.name).2).find nm2 = _
    rw [k5, hrn, find_put, if_neg hne, find_del, if_pos rfl]

/-! ### where the disk does not fail -/
theorem find_len {d : Dk} (h : d.Ok) {x : Nm} {f : Fl} (hf : d.find x = some f) : (d.del x).fs.length + 1 = d.fs.length := by
  have h1 := filter_length x h.nodup
  have h2 : (d.fs.lookup x).isSome = true := by
    have : d.fs.lookup x = some f := hf
    rw [this]; rfl
  rw [if_pos h2] at h1
  exact h1
/-- What a rewrite that is begun adds to the disk. -/
structure Rwn (d d' : Dk) (n : Nat) : Prop where
  ok : d'.Ok
  left : d'.left = -1
  room : d'.room = d.room
  used : d'.used ≤ d.used + n
  files : d'.fs.length = d.fs.length
theorem rew2_ok {nm2 : Nm} {g : Sg} : ∀ (l done : List Bt) (d : Dk) (gt : Sg), gt.name = nm2 → d.has nm2 (batBs done) → SgOf gt done → (∀ b ∈ l, b.Ok) → rising (lastEnd gt.base done) l → d.Ok → d.left = -1 → d.used + (batBs l).length ≤ d.room →
    ∃ d' gt', rew2 d g gt l = rew3 d' g gt' ∧ Rwn d d' (batBs l).length ∧ d'.has nm2 (batBs (done ++ l)) ∧ (∀ y, y ≠ nm2 → d'.find y = d.find y) ∧ gt'.name = nm2
  | [], done, d, gt, hnm, hd, hg, _, _, hdk, hl, _ => ⟨d, gt, rfl, ⟨hdk, hl, rfl, Nat.le_add_right _ _, rfl⟩, by rw [List.append_nil]; exact hd, fun _ _ => rfl, hnm⟩
  | b :: l, done, d, gt, hnm, hd, hg, hok, hr, hdk, hl, hroom => by
    have hb := hok b (List.mem_cons_self ..)
    have hn : gt.next ≤ b.base := by rw [hg.next]; exact hr.1
    rw [batBs_cons, List.length_append] at hroom
    obtain ⟨sf, hf⟩ := hd
    have hadd : d.add gt.name b.bytes = (0, d.turn nm2 ⟨batBs done ++ b.bytes, sf⟩) := by
      have hnr : ¬ d.room < d.used + b.bytes.length := by omega
      unfold Dk.add Dk.at
      rw [hnm, if_neg (by rw [does_true hl]; simp), hf, step_same hl]
      simp only [hnr, if_false]
    have e1 : rew2 d g gt (b :: l) = if (addSg d gt b.base b.en b.rs).1 = 0 then rew2 (addSg d gt b.base b.en b.rs).2.1 g (addSg d gt b.base b.en b.rs).2.2 l else ((addSg d gt b.base b.en b.rs).1, ((addSg d gt b.base b.en b.rs).2.1.remove gt.name).2, g) := rfl
    rw [e1, addSg_ok hb hn, hadd, if_pos rfl, if_pos rfl]
    have hsafe : sf ≤ (batBs done).length := hdk.safe _ (lookup_some hf)
    have hok2 : (d.turn nm2 ⟨batBs done ++ b.bytes, sf⟩).Ok := hdk.turn hf (by show sf ≤ (batBs done ++ b.bytes).length; rw [List.length_append]; omega) (by show _ + (batBs done ++ b.bytes).length ≤ _ + (batBs done).length; rw [List.length_append]; omega)
    have hu : (d.turn nm2 ⟨batBs done ++ b.bytes, sf⟩).used = d.used + b.bytes.length := by
      have := used_turn nm2 ⟨batBs done ++ b.bytes, sf⟩ ⟨batBs done, sf⟩ d.fs hdk.nodup hf
      show ((d.fs.map fun p => if p.1 = nm2 then (p.1, _) else p).map fun p => p.2.bytes.length).sum = _
      unfold Dk.used
      simp only [List.length_append] at this ⊢
      omega
    have hfl : (d.turn nm2 ⟨batBs done ++ b.bytes, sf⟩).fs.length = d.fs.length := by
      show (d.fs.map _).length = _
      rw [List.length_map]
    have h4 : (d.turn nm2 ⟨batBs done ++ b.bytes, sf⟩).has nm2 (batBs (done ++ [b])) := ⟨sf, by rw [find_turn, if_pos rfl, hf, batBs_snoc]; rfl⟩
    obtain ⟨d', gt', k1, k2, k3, k4, k5⟩ := rew2_ok (g := g) l (done ++ [b]) (d.turn nm2 ⟨batBs done ++ b.bytes, sf⟩) (gt.noted b.base b.en b.rs b.bytes.length) hnm h4 (hg.noted hb hn) (fun c hc => hok c (List.mem_cons_of_mem _ hc)) (by rw [lastEnd_snoc]; exact hr.2) hok2 hl (by rw [hu]; show _ ≤ d.room; omega)
    have e2 : done ++ b :: l = done ++ [b] ++ l := by simp
    rw [e2]
    refine ⟨d', gt', k1, ⟨k2.ok, k2.left, k2.room, ?_, by rw [k2.files, hfl]⟩, k3, fun y hy => by rw [k4 y hy, find_turn, if_neg hy], k5⟩
    have := k2.used
    rw [hu] at this
    rw [batBs_cons, List.length_append]
    omega
theorem rew1_ok {d : Dk} {g : Sg} {nm2 : Nm} {l l0 : List Bt} (hne : nm2 ≠ g.name) (hok : ∀ b ∈ l, b.Ok) (hr : rising g.base l) (hdk : d.Ok) (hl : d.left = -1) (hroom : d.used + (batBs l).length ≤ d.room) (hfl : d.fs.length < 200) (hn : d.find nm2 = none) (h0 : d.has g.name (batBs l0)) (hle : (batBs l).length ≤ (batBs l0).length) (k1 : dkName g.name = true) (k2 : dkName nm2 = true) :
    (rew1 d g nm2 l).1 = 0 ∧ (rew1 d g nm2 l).2.1.Ok ∧ (rew1 d g nm2 l).2.1.left = -1 ∧ (rew1 d g nm2 l).2.1.room = d.room ∧ (rew1 d g nm2 l).2.1.used ≤ d.used ∧ (rew1 d g nm2 l).2.1.fs.length ≤ d.fs.length := by
  have hmk : d.make nm2 = (0, d.put nm2 ⟨[], 0⟩) := by
    unfold Dk.make
    rw [if_neg (by rw [does_true hl]; simp), if_neg (by rw [k2]; simp), hn, if_neg (by simp), if_neg (by omega), step_same hl]
  have hput : d.put nm2 ⟨[], 0⟩ = { d with fs := d.fs ++ [(nm2, ⟨[], 0⟩)] } := by
    unfold Dk.put
    rw [names_filter (find_none hn)]
  have hok1 : (d.make nm2).2.Ok := hdk.make _
  rw [hmk] at hok1
  have hu1 : (d.put nm2 ⟨[], 0⟩).used = d.used := by rw [hput]; unfold Dk.used; simp
  have hf1 : (d.put nm2 ⟨[], 0⟩).fs.length = d.fs.length + 1 := by rw [hput]; simp
  have hr1 : (d.put nm2 ⟨[], 0⟩).room = d.room := by rw [hput]
  obtain ⟨d2, gt, e2, j1, j2, j3, j4⟩ := rew2_ok (g := g) l [] (d.put nm2 ⟨[], 0⟩) ⟨nm2, g.base, [], 0⟩ rfl ⟨0, by rw [find_put, if_pos rfl]; rfl⟩ ⟨rfl, rfl, fun b hb => (by cases hb), trivial⟩ hok hr hok1 (by rw [hput]; exact hl) (by rw [hu1, hr1]; exact hroom)
  rw [List.nil_append] at j2
  obtain ⟨s2, hs2⟩ := j2
  have hsy : d2.sync nm2 = (0, d2.turn nm2 ⟨batBs l, (batBs l).length⟩) := by
    unfold Dk.sync Dk.at
    rw [if_neg (by rw [does_true j1.left]; simp), hs2, step_same j1.left]
  have hok3 : (d2.turn nm2 ⟨batBs l, (batBs l).length⟩).Ok := j1.ok.turn hs2 (Nat.le_refl _) (Nat.add_le_add_right j1.ok.fits _)
  have hu3 : (d2.turn nm2 ⟨batBs l, (batBs l).length⟩).used = d2.used := by
    have := used_turn nm2 ⟨batBs l, (batBs l).length⟩ ⟨batBs l, s2⟩ d2.fs j1.ok.nodup hs2
    show ((d2.fs.map fun p => if p.1 = nm2 then (p.1, _) else p).map fun p => p.2.bytes.length).sum = _
    unfold Dk.used
    simp only at this ⊢
    omega
  have hf3 : (d2.turn nm2 ⟨batBs l, (batBs l).length⟩).fs.length = d2.fs.length := by
    show (d2.fs.map _).length = _
    rw [List.length_map]
  have hn3 : (d2.turn nm2 ⟨batBs l, (batBs l).length⟩).find nm2 = some ⟨batBs l, (batBs l).length⟩ := by rw [find_turn, if_pos rfl, hs2]; rfl
  obtain ⟨s0, hs0⟩ := h0
  have hg3 : (d2.turn nm2 ⟨batBs l, (batBs l).length⟩).find g.name = some ⟨batBs l0, s0⟩ := by rw [find_turn, if_neg (Ne.symm hne), j3 _ (Ne.symm hne), find_put, if_neg (Ne.symm hne), hs0]
  obtain ⟨d3, hd3⟩ : ∃ d3, d2.turn nm2 ⟨batBs l, (batBs l).length⟩ = d3 := ⟨_, rfl⟩
  rw [hd3] at hsy hok3 hu3 hf3 hn3 hg3
  have hl3 : d3.left = -1 := by rw [← hd3]; exact j1.left
  have hr3 : d3.room = d2.room := by rw [← hd3]; rfl
  have hrn : d3.rename nm2 g.name = (0, (d3.del nm2).put g.name ⟨batBs l, (batBs l).length⟩) := by
    unfold Dk.rename Dk.at
    rw [if_neg (by rw [does_true hl3]; simp), hn3, step_same hl3]
    simp only [k1]
    rfl
  have e5 : rew1 d g nm2 l = (0, (d3.del nm2).put g.name ⟨batBs l, (batBs l).length⟩, { g with pls := gt.pls, size := gt.size }) := by
    unfold rew1
    rw [hmk, if_pos rfl, e2]
    unfold rew3 rew4
    rw [j4, hsy, if_pos rfl, hrn, if_pos rfl]
  rw [e5]
  refine ⟨rfl, hok3.renamed hn3 k1, hl3, by show d3.room = _; rw [hr3, j1.room, hr1], ?_, ?_⟩
  · have h1 : (d3.del nm2).used + (batBs l).length ≤ d3.used := used_del_le d3.fs nm2 _ hn3
    have hgd : (d3.del nm2).find g.name = some ⟨batBs l0, s0⟩ := by rw [find_del, if_neg (Ne.symm hne), hg3]
    have h2 : ((d3.del nm2).del g.name).used + (batBs l0).length ≤ (d3.del nm2).used := used_del_le (d3.del nm2).fs g.name _ hgd
    have h3 : ((d3.del nm2).put g.name ⟨batBs l, (batBs l).length⟩).used = ((d3.del nm2).del g.name).used + (batBs l).length := by
      unfold Dk.put Dk.used
      rw [List.map_append, List.sum_append]
      simp only [List.map_cons, List.map_nil, List.sum_cons, List.sum_nil, Nat.add_zero]
      rfl
    have h4 := j1.used
    show ((d3.del nm2).put g.name ⟨batBs l, (batBs l).length⟩).used ≤ _
    omega
  · have h1 := find_len hok3 hn3
    have hgd : (d3.del nm2).find g.name = some ⟨batBs l0, s0⟩ := by rw [find_del, if_neg (Ne.symm hne), hg3]
    have h2 := find_len (hok3.del nm2) hgd
    have h3 := j1.files
    have h4 : ((d3.del nm2).put g.name ⟨batBs l, (batBs l).length⟩).fs.length = ((d3.del nm2).del g.name).fs.length + 1 := by
      show (((d3.del nm2).fs.filter _) ++ [_]).length = _
      rw [List.length_append]
      rfl
    show ((d3.del nm2).put g.name ⟨batBs l, (batBs l).length⟩).fs.length ≤ _
    omega
theorem rew_ok {d : Dk} {g : Sg} {nm2 : Nm} {l l0 : List Bt} (hne : nm2 ≠ g.name) (hok : ∀ b ∈ l, b.Ok) (hr : rising g.base l) (hdk : d.Ok) (hl : d.left = -1) (hroom : d.used + (batBs l).length ≤ d.room) (hfl : d.fs.length < 200) (h0 : d.has g.name (batBs l0)) (hle : (batBs l).length ≤ (batBs l0).length) (k1 : dkName g.name = true) (k2 : dkName nm2 = true) :
    (rewL d g nm2 l).1 = 0 ∧ (rewL d g nm2 l).2.1.Ok ∧ (rewL d g nm2 l).2.1.left = -1 ∧ (rewL d g nm2 l).2.1.room = d.room ∧ (rewL d g nm2 l).2.1.used ≤ d.used ∧ (rewL d g nm2 l).2.1.fs.length ≤ d.fs.length := by
  cases hf : d.find nm2 with
  | none =>
    have e0 : rew0 d nm2 = (0, d) := by
      unfold rew0 Dk.size
      rw [hf]
      rfl
    have e1 : rewL d g nm2 l = rew1 d g nm2 l := by unfold rewL; rw [e0, if_pos rfl]
    rw [e1]
    exact rew1_ok hne hok hr hdk hl hroom hfl hf h0 hle k1 k2
  | some f =>
    have hrm : d.remove nm2 = (0, d.del nm2) := by
      unfold Dk.remove Dk.at
      rw [if_neg (by rw [does_true hl]; simp), hf, step_same hl]
    have e0 : rew0 d nm2 = (0, d.del nm2) := by
      unfold rew0
      rw [if_pos (by unfold Dk.size; rw [hf]; exact Int.natCast_nonneg _), hrm]
    have e1 : rewL d g nm2 l = rew1 (d.del nm2) g nm2 l := by unfold rewL; rw [e0, if_pos rfl]
    rw [e1]
    have hu : (d.del nm2).used ≤ d.used := used_filter d nm2
    have hfn := find_len hdk hf
    obtain ⟨s0, hs0⟩ := h0
    obtain ⟨j1, j2, j3, j4, j5, j6⟩ := rew1_ok (d := d.del nm2) hne hok hr (hdk.del _) hl (by show _ ≤ d.room; omega) (by omega) (by rw [find_del, if_pos rfl]) ⟨s0, by rw [find_del, if_neg (Ne.symm hne)]; exact hs0⟩ hle k1 k2
    exact ⟨j1, j2, j3, j4, by omega, by omega⟩
end Go.Proofs.YtdjmifaidgbbaaaGreatDoor
