/-
  maps.Values and maps.Keys at the disk's map: for every loop body.
-/
import Derived.Test.YtdjmifaidgbbaaaGreatDoorLc05
import Derived.RangeFuncMany
import Derived.RangeFuncLeaves
import Derived.RangeFuncStops
import Derived.Sort.MapsRangeIn
import Derived.Sort.KeysCollected
import Derived.WalkKit
import Derived.OwnWalkIn
import Derived.TacticsInMore
import Derived.RegionIn
import Derived.LoopNIn
import Derived.LoopIn
import Derived.RangeFuncFrom
import Derived.RangeFuncBound
import Derived.RangeFuncCalls
import Derived.RangeFuncNested
import Derived.Shelf.Abstract
import Derived.Shelf.RegionOpen
set_option linter.unusedSimpArgs false
set_option linter.unusedVariables false
namespace Go.Proofs.YtdjmifaidgbbaaaGreatDoor
open Go.RowKit Go.Maps Go.Sort

theorem datOf_inj {a b : Option Nat} (h : datOf a = datOf b) : a = b := by
  cases a <;> cases b <;> simp [datOf] at h
  · rfl
  · rename_i a b
    have : a = b := by omega
    rw [this]
theorem pairs_perm {ps fs : List (Nm × Nat)} (hp : (ps.map (·.1)).Nodup) (hf : (fs.map (·.1)).Nodup) (hv : ∀ p ∈ ps, fs.lookup p.1 = some p.2) (hall : ∀ x, x ∈ ps.map (·.1) ↔ (fs.lookup x).isSome = true) : ps.Perm fs := by
  have nd : ∀ l : List (Nm × Nat), (l.map (·.1)).Nodup → l.Nodup := fun l h => List.Pairwise.of_map _ (fun a b hab e => hab (by rw [e])) h
  refine (List.perm_ext_iff_of_nodup (nd _ hp) (nd _ hf)).2 fun q => ⟨fun h => lookup_some (hv q h), fun h => ?_⟩
  have h1 := lookup_mem hf h
  have h2 : q.1 ∈ ps.map (·.1) := (hall q.1).2 (by rw [h1]; rfl)
  obtain ⟨r, hr, he⟩ := List.mem_map.1 h2
  have h3 := hv r hr
  rw [he, h1] at h3
  have : r = q := by
    cases r; cases q
    simp at he h3
    rw [he, h3]
  rw [← this]; exact hr

/-- A pointer to a file. -/
def encP (b : Nat) : Value := ptrOf (some b)

set_option maxRecDepth 100000 in
set_option maxHeartbeats 1000000 in
theorem values1_in (F : Fence) (n : Nat) (h8 : F.fn 187) (hro : F.round = none) (hn : 1 ≤ n) (l Bm b : Nat) (fs : List (Nm × Nat)) (J Jx : List Nat → World → Prop)
    (hY : ∀ pre x W, x ∈ fs.map (·.2) → J pre W → pre.length < fs.length → YieldAt F (n - 1) Tryz.prog l #[encP x] W fun e W' =>
      (e = .returned (.bool true) ∧ J (pre ++ [x]) W' ∧ KeepsWalks W W') ∨ (e = .returned (.bool false) ∧ Jx (pre ++ [x]) W'))
    (W : World) (hJ : AbidesFrom W.heap.size J) (hm : W.cell? ⟨Bm, 0, none⟩ = some (.map (some b))) (hmap : MapAt W b fs) (h0 : J [] W) :
    CallsIn F n Tryz.prog 187 #[.func (.yield l) #[] #[], .pointer (some ⟨Bm, 0, none⟩)] W fun e W' => (∃ v, e = .returned v) ∧
      ((∃ xs, xs.Perm (fs.map (·.2)) ∧ J xs W') ∨ (∃ pre, True ∧ Jx pre W')) := by
  obtain ⟨hnd, D0, hown, hsz, hD⟩ := hmap
  refine callsIn_of_wp Tryz.func187 rfl h8 ?_ hro
  simp only [Tryz.ntmps187, List.size_toArray, List.length_cons, List.length_nil, Nat.reduceAdd, Nat.reduceSub, Array.replicate_succ, Array.replicate_zero, List.push_toArray, List.append_toArray, List.nil_append, List.cons_append]
  gi_wp2_with (first
    | (gi_at_range; refine wpListIn_range_own _ rfl _ 94 rfl 9 139 keyedS Tryz.underlying94 _ b fs.length _ rfl hown ?_; intro w0 hrg0 hg0 hs0)
    | gi_in)
  go_frame
  gi_loopw [4] (fun _ wr => ∃ (left : Lit → Bool) (cnt : Nat) (ps : List (Nm × Nat)), wr.ranges Tryz.prog 9 ptrElem b W.heap.size fs.length D0 left cnt ∧ ps.length + cnt ≤ Maps.size D0 ∧ Collected D0 left (ps.map (·.1)) ∧ (∀ p ∈ ps, fs.lookup p.1 = some p.2) ∧ J (ps.map (·.2)) wr)
    (fun _ wr => wr.rangeLeft b W.heap.size)
  case atStart =>
    exact ⟨_, _, [], hrg0, by simp, Collected.start D0, by simp, hJ [] W w0 none h0 hg0 (fun r e => by cases e)⟩
  case round =>
    obtain ⟨left, cnt, ps, hrg, hcs, hC, hV, hJs⟩ := hrel
    gi_wp2_with (first
      | (gi_at_next; refine wpListIn_next_ranges _ rfl _ rfl 9 keyedS ptrElem encStr ptrOf (fun key kl hk => by obtain ⟨x, hx, _⟩ := Maps.keyOf_str Tryz.underlying9 hk; exact ⟨x, hx⟩) (fun v y hv => by unfold ptrElem at hv; split at hv; exact ⟨none, rfl⟩; exact ⟨some _, rfl⟩; cases hv) b W.heap.size fs.length _ _ _ rfl hrg ?_ ?_)
      | gi_in)
    · -- NOTHING IS LEFT
      intro hc0 hl0
      gi_wp2
      go_end0
      refine ⟨⟨_, rfl⟩, .inl ⟨_, (pairs_perm hC.1 hnd hV fun x => ?_).map _, hJs⟩⟩
      rw [← (hD x).2]
      exact ⟨fun h => ((hC.2 x).1 h).1, fun h => by rw [hC.2 x, hl0]; exact ⟨h, by simp⟩⟩
    · -- AN ENTRY HAS COME: yield(v)
      intro x c kl yd yp w2 cnt2 hkey hlk hv hat hrg2 hlt hg2 hs2 hen
      obtain ⟨x', ex, rfl, _⟩ := Maps.keyOf_str Tryz.underlying9 hkey
      obtain rfl : x = x' := encStr_inj ex
      have hC2' := hC.step hlk hat
      have hc : fs.lookup x = c := by
        have h1 := hat .nil
        rw [(hD x).1] at h1
        rw [ptrElem_of] at hv
        have h2 : datOf c = yd := by simpa using congrArg (fun z => z.map (·.1)) hv
        exact datOf_inj (h1.trans h2.symm)
      have hsome : (fs.lookup x).isSome = true := by
        rw [← (hD x).2]
        exact ((hC2'.2 x).1 (by simp)).1
      obtain ⟨bl, hbl⟩ : ∃ bl, fs.lookup x = some bl := Option.isSome_iff_exists.1 hsome
      rw [hbl] at hc
      subst hc
      have hJ2 : J (ps.map (·.2)) w2 := hJ _ wr w2 (some W.heap.size) hJs hg2 (fun r e => by cases e; exact ⟨Nat.le_refl _, hrg.iter_walk⟩)
      obtain ⟨fn, tmps, assign, body, hy, hR⟩ := hY (ps.map (·.2)) bl w2 (List.mem_map.2 ⟨(x, bl), lookup_some hbl, rfl⟩) hJ2 (by simp; omega)
      clear hs2
      have hC2 : Collected D0 (fun z => left z && !z.sameKey (.string x)) ((ps ++ [(x, bl)]).map (·.1)) := by simpa using hC2'
      have hV2 : ∀ p ∈ ps ++ [(x, bl)], fs.lookup p.1 = some p.2 := fun p hp => (List.mem_append.1 hp).elim (hV p) (fun e => by simp at e; subst e; exact hbl)
      clear hbl hsome hC2'
      dsimp only [encP] at hy
      gi_wp2
      refine hR.mono ?_
      rintro e W3 (⟨rfl, hJ3, hk3⟩ | ⟨rfl, hJx3⟩)
      · gi_wp2
        have hrg3 := hrg2.of_walks hk3
        go_roundw
        case rel => exact ⟨_, cnt2, ps ++ [(x, bl)], hrg3, by simp; omega, hC2, hV2, by simpa using hJ3⟩
        case measure => rw [hrg3.left_eq, hrg.left_eq]; exact hlt
      · gi_wp2
        refine bodyPost_ret (results_none rfl _ _ _) rfl ?_
        exact ⟨⟨_, rfl⟩, .inr ⟨_, trivial, hJx3⟩⟩

set_option maxRecDepth 100000 in
set_option maxHeartbeats 1000000 in
theorem keys1_in (F : Fence) (n : Nat) (h8 : F.fn 116) (hro : F.round = none) (hn : 1 ≤ n) (l Bm b : Nat) (fs : List (Nm × Nat)) (J Jx : List Nm → World → Prop)
    (hY : ∀ pre x W, x ∈ fs.map (·.1) → J pre W → pre.length < fs.length → YieldAt F (n - 1) Tryz.prog l #[encStr x] W fun e W' =>
      (e = .returned (.bool true) ∧ J (pre ++ [x]) W' ∧ KeepsWalks W W') ∨ (e = .returned (.bool false) ∧ Jx (pre ++ [x]) W'))
    (W : World) (hJ : AbidesFrom W.heap.size J) (hm : W.cell? ⟨Bm, 0, none⟩ = some (.map (some b))) (hmap : MapAt W b fs) (h0 : J [] W) :
    CallsIn F n Tryz.prog 116 #[.func (.yield l) #[] #[], .pointer (some ⟨Bm, 0, none⟩)] W fun e W' => (∃ v, e = .returned v) ∧
      ((∃ xs, xs.Perm (fs.map (·.1)) ∧ J xs W') ∨ (∃ pre, True ∧ Jx pre W')) := by
  obtain ⟨hnd, D0, hown, hsz, hD⟩ := hmap
  refine callsIn_of_wp Tryz.func116 rfl h8 ?_ hro
  simp only [Tryz.ntmps116, List.size_toArray, List.length_cons, List.length_nil, Nat.reduceAdd, Nat.reduceSub, Array.replicate_succ, Array.replicate_zero, List.push_toArray, List.append_toArray, List.nil_append, List.cons_append]
  gi_wp2_with (first
    | (gi_at_range; refine wpListIn_range_own _ rfl _ 94 rfl 9 139 keyedS Tryz.underlying94 _ b fs.length _ rfl hown ?_; intro w0 hrg0 hg0 hs0)
    | gi_in)
  go_frame
  gi_loopw [3] (fun _ wr => ∃ (left : Lit → Bool) (cnt : Nat) (ps : List (Nm × Nat)), wr.ranges Tryz.prog 9 ptrElem b W.heap.size fs.length D0 left cnt ∧ ps.length + cnt ≤ Maps.size D0 ∧ Collected D0 left (ps.map (·.1)) ∧ (∀ p ∈ ps, fs.lookup p.1 = some p.2) ∧ J (ps.map (·.1)) wr)
    (fun _ wr => wr.rangeLeft b W.heap.size)
  case atStart =>
    exact ⟨_, _, [], hrg0, by simp, Collected.start D0, by simp, hJ [] W w0 none h0 hg0 (fun r e => by cases e)⟩
  case round =>
    obtain ⟨left, cnt, ps, hrg, hcs, hC, hV, hJs⟩ := hrel
    gi_wp2_with (first
      | (gi_at_next; refine wpListIn_next_ranges _ rfl _ rfl 9 keyedS ptrElem encStr ptrOf (fun key kl hk => by obtain ⟨x, hx, _⟩ := Maps.keyOf_str Tryz.underlying9 hk; exact ⟨x, hx⟩) (fun v y hv => by unfold ptrElem at hv; split at hv; exact ⟨none, rfl⟩; exact ⟨some _, rfl⟩; cases hv) b W.heap.size fs.length _ _ _ rfl hrg ?_ ?_)
      | gi_in)
    · -- NOTHING IS LEFT
      intro hc0 hl0
      gi_wp2
      go_end0
      refine ⟨⟨_, rfl⟩, .inl ⟨_, (pairs_perm hC.1 hnd hV fun x => ?_).map _, hJs⟩⟩
      rw [← (hD x).2]
      exact ⟨fun h => ((hC.2 x).1 h).1, fun h => by rw [hC.2 x, hl0]; exact ⟨h, by simp⟩⟩
    · -- AN ENTRY HAS COME: yield(v)
      intro x c kl yd yp w2 cnt2 hkey hlk hv hat hrg2 hlt hg2 hs2 hen
      obtain ⟨x', ex, rfl, _⟩ := Maps.keyOf_str Tryz.underlying9 hkey
      obtain rfl : x = x' := encStr_inj ex
      have hC2' := hC.step hlk hat
      have hc : fs.lookup x = c := by
        have h1 := hat .nil
        rw [(hD x).1] at h1
        rw [ptrElem_of] at hv
        have h2 : datOf c = yd := by simpa using congrArg (fun z => z.map (·.1)) hv
        exact datOf_inj (h1.trans h2.symm)
      have hsome : (fs.lookup x).isSome = true := by
        rw [← (hD x).2]
        exact ((hC2'.2 x).1 (by simp)).1
      obtain ⟨bl, hbl⟩ : ∃ bl, fs.lookup x = some bl := Option.isSome_iff_exists.1 hsome
      rw [hbl] at hc
      subst hc
      have hJ2 : J (ps.map (·.1)) w2 := hJ _ wr w2 (some W.heap.size) hJs hg2 (fun r e => by cases e; exact ⟨Nat.le_refl _, hrg.iter_walk⟩)
      obtain ⟨fn, tmps, assign, body, hy, hR⟩ := hY (ps.map (·.1)) x w2 (List.mem_map.2 ⟨(x, bl), lookup_some hbl, rfl⟩) hJ2 (by simp; omega)
      clear hs2
      have hC2 : Collected D0 (fun z => left z && !z.sameKey (.string x)) ((ps ++ [(x, bl)]).map (·.1)) := by simpa using hC2'
      have hV2 : ∀ p ∈ ps ++ [(x, bl)], fs.lookup p.1 = some p.2 := fun p hp => (List.mem_append.1 hp).elim (hV p) (fun e => by simp at e; subst e; exact hbl)
      clear hbl hsome hC2'
      gi_wp2
      refine hR.mono ?_
      rintro e W3 (⟨rfl, hJ3, hk3⟩ | ⟨rfl, hJx3⟩)
      · gi_wp2
        have hrg3 := hrg2.of_walks hk3
        go_roundw
        case rel => exact ⟨_, cnt2, ps ++ [(x, bl)], hrg3, by simp; omega, hC2, hV2, by simpa using hJ3⟩
        case measure => rw [hrg3.left_eq, hrg.left_eq]; exact hlt
      · gi_wp2
        refine bodyPost_ret (results_none rfl _ _ _) rfl ?_
        exact ⟨⟨_, rfl⟩, .inr ⟨_, trivial, hJx3⟩⟩

set_option maxHeartbeats 1000000 in
theorem mvalues_in (F : Fence) (n : Nat) (hf : F.fn 162) (hro : F.round = none) (mb : Option Nat) (w : World) :
    CallsIn F n Tryz.prog 162 #[.map mb] w fun e w' => e = .returned (.func (.func 187) #[] #[.pointer (some ⟨w.heap.size, 0, none⟩)]) ∧ w' = w.alloc (.cells #[.map mb] 94) := by
  refine callsIn_of_wp Tryz.func162 rfl hf ?_ hro
  simp only [Tryz.ntmps162, List.size_toArray, List.length_cons, List.length_nil, Nat.reduceAdd, Nat.reduceSub, Array.replicate_succ, Array.replicate_zero, List.push_toArray, List.append_toArray, List.nil_append, List.cons_append]
  gi_wp2
  go_ret
  exact ⟨rfl, rfl⟩

theorem MapAt.below {w W : World} {mb : Nat} {fs : List (Nm × Nat)} (h : MapAt w mb fs) (hW : Below w.heap.size w W) : MapAt W mb fs :=
  h.chg (Chg.of_below hW Nil) (fun h => h)

/-- From an iterator's word on lists to one on lists whose members are known. -/
theorem stops_of {β : Type} {P : Program} {F : Fence} {n : Nat} {g : Nat} {lb : Array Value} {enc : β → Value} {N : Nat} {w : World} (M : β → Prop) (S : List β → Prop)
    (h : ∀ (l : Nat) (J Jx : List β → World → Prop) (W : World), Below w.heap.size w W → AbidesFrom W.heap.size J →
      (∀ pre x W1, M x → J pre W1 → pre.length < N → YieldAt F (n - 1) P l #[enc x] W1 fun e W' => (e = .returned (.bool true) ∧ J (pre ++ [x]) W' ∧ KeepsWalks W1 W') ∨ (e = .returned (.bool false) ∧ Jx (pre ++ [x]) W')) → J [] W →
      CallsIn F n P g (#[.func (.yield l) #[] #[]] ++ lb) W fun e W' => (∃ v, e = .returned v) ∧ ((∃ xs, S xs ∧ J xs W') ∨ (∃ pre, True ∧ Jx pre W'))) :
    SeqStops F n P g lb (fun x : {b // M b} => enc x.1) (fun xs => S (xs.map (·.1))) (fun _ => True) N w := fun l J Jx W hW hJ _ hY h0 => by
  refine (h l (fun q W => ∃ l', l'.map (·.1) = q ∧ J l' W) (fun q W => ∃ l', l'.map (·.1) = q ∧ Jx l' W) W hW ?_ ?_ ⟨[], rfl, h0⟩).mono ?_
  · rintro s X Y row ⟨l', e, hj⟩ hg hr
    exact ⟨l', e, hJ l' X Y row hj hg hr⟩
  · rintro pre x W1 hx ⟨l', rfl, hj⟩ hlt
    obtain ⟨fn, tmps, assign, body, hy, hR⟩ := hY l' ⟨x, hx⟩ W1 hj (by simpa using hlt)
    refine ⟨fn, tmps, assign, body, hy, hR.mono ?_⟩
    rintro e W' (⟨h1, h2, h3⟩ | ⟨h1, h2⟩)
    · exact .inl ⟨h1, ⟨_, by simp, h2⟩, h3⟩
    · exact .inr ⟨h1, _, by simp, h2⟩
  · rintro e W' ⟨hv, ⟨xs, hs, l', rfl, hj⟩ | ⟨pre, _, l', _, hj⟩⟩
    · exact ⟨hv, .inl ⟨l', hs, hj⟩⟩
    · exact ⟨hv, .inr ⟨l', trivial, hj⟩⟩

theorem values_stops (F : Fence) (n : Nat) (h7 : F.fn 187) (hro : F.round = none) (hn : 1 ≤ n) (Bm b : Nat) (fs : List (Nm × Nat)) (w : World) (hBm : Bm < w.heap.size)
    (hm : w.cell? ⟨Bm, 0, none⟩ = some (.map (some b))) (hmap : MapAt w b fs) :
    SeqStops F n Tryz.prog 187 #[.pointer (some ⟨Bm, 0, none⟩)] (fun x : {b // b ∈ fs.map (·.2)} => encP x.1) (fun xs => (xs.map (·.1)).Perm (fs.map (·.2))) (fun _ => True) fs.length w :=
  stops_of (β := Nat) (enc := encP) (fun b => b ∈ fs.map (·.2)) (fun xs => xs.Perm (fs.map (·.2))) fun l J Jx W hW hJ hY h0 => by
    have e : (#[Value.func (.yield l) #[] #[]] ++ #[Value.pointer (some ⟨Bm, 0, none⟩)] : Array Value) = #[.func (.yield l) #[] #[], .pointer (some ⟨Bm, 0, none⟩)] := rfl
    rw [e]
    exact values1_in F n h7 hro hn l Bm b fs J Jx hY W hJ ((hW.cell (p := ⟨Bm, 0, none⟩) hBm).trans hm) (hmap.below hW) h0

theorem keys_stops (F : Fence) (n : Nat) (h7 : F.fn 116) (hro : F.round = none) (hn : 1 ≤ n) (Bm b : Nat) (fs : List (Nm × Nat)) (w : World) (hBm : Bm < w.heap.size)
    (hm : w.cell? ⟨Bm, 0, none⟩ = some (.map (some b))) (hmap : MapAt w b fs) :
    SeqStops F n Tryz.prog 116 #[.pointer (some ⟨Bm, 0, none⟩)] (fun x : {b // b ∈ fs.map (·.1)} => encStr x.1) (fun xs => (xs.map (·.1)).Perm (fs.map (·.1))) (fun _ => True) fs.length w :=
  stops_of (β := Nm) (enc := encStr) (fun b => b ∈ fs.map (·.1)) (fun xs => xs.Perm (fs.map (·.1))) fun l J Jx W hW hJ hY h0 => by
    have e : (#[Value.func (.yield l) #[] #[]] ++ #[Value.pointer (some ⟨Bm, 0, none⟩)] : Array Value) = #[.func (.yield l) #[] #[], .pointer (some ⟨Bm, 0, none⟩)] := rfl
    rw [e]
    exact keys1_in F n h7 hro hn l Bm b fs J Jx hY W hJ ((hW.cell (p := ⟨Bm, 0, none⟩) hBm).trans hm) (hmap.below hW) h0

set_option maxHeartbeats 1000000 in
theorem mkeys_in (F : Fence) (n : Nat) (hf : F.fn 81) (hro : F.round = none) (mb : Option Nat) (w : World) :
    CallsIn F n Tryz.prog 81 #[.map mb] w fun e w' => e = .returned (.func (.func 116) #[] #[.pointer (some ⟨w.heap.size, 0, none⟩)]) ∧ w' = w.alloc (.cells #[.map mb] 94) := by
  refine callsIn_of_wp Tryz.func81 rfl hf ?_ hro
  simp only [Tryz.ntmps81, List.size_toArray, List.length_cons, List.length_nil, Nat.reduceAdd, Nat.reduceSub, Array.replicate_succ, Array.replicate_zero, List.push_toArray, List.append_toArray, List.nil_append, List.cons_append]
  gi_wp2
  go_ret
  exact ⟨rfl, rfl⟩
end Go.Proofs.YtdjmifaidgbbaaaGreatDoor

/-
  The disk in memory.
-/
set_option linter.unusedSimpArgs false
set_option linter.unusedVariables false
namespace Go.Proofs.YtdjmifaidgbbaaaGreatDoor
open Go.RowKit Go.Maps

/-- The disk's blocks: its own, the map's, the files', their bytes'. -/
def Has (p mb : Nat) (fs : List (Nm × Nat)) (sv : Nat → Value) (k : Nat) : Prop := k = p ∨ k = mb ∨ ∃ q ∈ fs, k = q.2 ∨ Value.room (sv q.2) = some k

structure Dm (w : World) (p mb : Nat) (fs : List (Nm × Nat)) (sv : Nat → Value) (con : Nat → Fl) (room : Nat) (left : Int) : Prop where
  c : Box w p [.map (some mb), .int .i64 (room : Nat), .int .i64 left] 96
  m : MapAt w mb fs
  f : ∀ q ∈ fs, Box w q.2 [sv q.2, .int .i64 ((con q.2).safe : Nat)] 141
  o : ∀ q ∈ fs, SlcRow w 5 1 (sv q.2) (con q.2).bytes.length ((con q.2).bytes.map bval)
  nd : (fs.map (·.2)).Nodup
  ap : ∀ q ∈ fs, ∀ r ∈ fs, ∀ k, Value.room (sv q.2) = some k → Value.room (sv r.2) = some k → q.2 = r.2

theorem box_type {w : World} {g : Nat} {cs cs' : List Value} {t t' : TypeId} (h : Box w g cs t) (h' : Box w g cs' t') : t = t' := by
  have h1 : w.heap[g]? = _ := h
  have h2 : w.heap[g]? = _ := h'
  rw [h1] at h2
  cases h2; rfl
theorem Dm.lt {w : World} {p mb : Nat} {fs : List (Nm × Nat)} {sv : Nat → Value} {con : Nat → Fl} {room : Nat} {left : Int} (h : Dm w p mb fs sv con room left) : ∀ k, Has p mb fs sv k → k < w.heap.size := by
  rintro k (rfl | rfl | ⟨q, hq, rfl | hk⟩)
  · exact (Array.getElem?_eq_some_iff.1 h.c).1
  · exact h.m.lt
  · exact (Array.getElem?_eq_some_iff.1 (h.f q hq)).1
  · exact (h.o q hq).lt k hk
theorem Dm.chg {S : Nat → Prop} {w w' : World} {p mb : Nat} {fs : List (Nm × Nat)} {sv : Nat → Value} {con : Nat → Fl} {room : Nat} {left : Int} (h : Dm w p mb fs sv con room left) (hc : Chg S w w') (hn : ∀ k, Has p mb fs sv k → ¬ S k) : Dm w' p mb fs sv con room left :=
  ⟨h.c.chg hc (hn _ (.inl rfl)), h.m.chg hc (hn _ (.inr (.inl rfl))), fun q hq => (h.f q hq).chg hc (hn _ (.inr (.inr ⟨q, hq, .inl rfl⟩))), fun q hq => (h.o q hq).chg hc (fun k hk => hn _ (.inr (.inr ⟨q, hq, .inr hk⟩))), h.nd, h.ap⟩
/-- No two of the disk's blocks of other kinds are one. -/
theorem Dm.p_ne {w : World} {p mb : Nat} {fs : List (Nm × Nat)} {sv : Nat → Value} {con : Nat → Fl} {room : Nat} {left : Int} (h : Dm w p mb fs sv con room left) : mb ≠ p ∧ (∀ q ∈ fs, q.2 ≠ p ∧ Value.room (sv q.2) ≠ some p ∧ q.2 ≠ mb ∧ Value.room (sv q.2) ≠ some mb) ∧ ∀ q ∈ fs, ∀ r ∈ fs, Value.room (sv q.2) ≠ some r.2 := by
  refine ⟨h.m.ne_row h.c, fun q hq => ⟨fun e => ?_, fun e => ?_, fun e => ?_, fun e => ?_⟩, fun q hq r hr e => ?_⟩
  · have := box_type h.c (by rw [← e]; exact h.f q hq)
    exact absurd this (by decide)
  · obtain ⟨cur, hcur⟩ := (h.o q hq).row p e
    have h1 : w.heap[p]? = _ := h.c
    rw [h1] at hcur
    cases hcur
  · exact h.m.ne_row (h.f q hq) e.symm
  · obtain ⟨cur, hcur⟩ := (h.o q hq).row mb e
    exact h.m.ne_row hcur rfl
  · obtain ⟨cur, hcur⟩ := (h.o q hq).row r.2 e
    have h1 : w.heap[r.2]? = _ := h.f r hr
    rw [h1] at hcur
    cases hcur

/-- What is behind an error's number. -/
def errD (n : Nat) : Value := if n = 0 then .nilIface else .iface 65 (.int .i64 (n : Nat))

theorem Dm.turned {w : World} {p mb : Nat} {fs : List (Nm × Nat)} {sv : Nat → Value} {con : Nat → Fl} {room : Nat} {left : Int} (h : Dm w p mb fs sv con room left) (l' : Int) :
    Dm (w.setCell ⟨p, 2, none⟩ (.int .i64 l')) p mb fs sv con room l' ∧ Chg (fun k => k = p) w (w.setCell ⟨p, 2, none⟩ (.int .i64 l')) := by
  have hs : Chg (fun k => k = p) w (w.setCell ⟨p, 2, none⟩ (.int .i64 l')) := Chg.setCell (S := fun k => k = p) (p := ⟨p, 2, none⟩) (Chg.refl _ w) (.inl rfl) _
  obtain ⟨h1, h2, h3⟩ := h.p_ne
  exact ⟨⟨h.c.set 2 _, h.m.chg hs h1, fun q hq => (h.f q hq).chg hs (h2 q hq).1, fun q hq => (h.o q hq).chg hs (fun k hk e => (h2 q hq).2.1 (by rw [hk, e])), h.nd, h.ap⟩, hs⟩

/-- Whether an operation is done. -/
theorem works_any {w : World} {p mb : Nat} {fs : List (Nm × Nat)} {sv : Nat → Value} {con : Nat → Fl} {room : Nat} {left : Int} (h : Dm w p mb fs sv con room left) (hl : -1 ≤ left ∧ left ≤ 9223372036854775807) :
    Calls Tryz.prog 126 #[.pointer (some ⟨p, 0, none⟩)] w fun e w' => e = .returned (.bool (didB left)) ∧ Dm w' p mb fs sv con room (stepL left) ∧ Chg (fun k => k = p) w w' := by
  have c2 := h.c.cell (j := 2) rfl
  have y2 := h.c.free 2
  have HD := Lib.hid h
  by_cases h0 : 0 < left
  · have hw : wrap64 (left - 1) = left - 1 := by unfold wrap64; omega
    have HT := Lib.hid (h.turned (left - 1))
    have HB : Hid (didB left = true ∧ stepL left = left - 1) := ⟨decide_eq_true (by omega), if_pos h0⟩
    clear h
    go_enter Tryz.func126, Tryz.ntmps126
    go_wp2_with fail
    go_ret
    rw [HB.out.1, HB.out.2]
    exact ⟨rfl, HT.out.1, HT.out.2⟩
  · clear h
    have HB : Hid (didB left = decide (left < 0) ∧ stepL left = left) := ⟨by
      unfold didB
      by_cases h1 : left < 0
      · rw [decide_eq_true h1, decide_eq_true (by omega)]
      · rw [decide_eq_false h1, decide_eq_false (by omega)], if_neg h0⟩
    go_enter Tryz.func126, Tryz.ntmps126
    go_wp2_with fail
    go_ret
    rw [HB.out.1, HB.out.2]
    exact ⟨rfl, HD.out, Chg.refl _ _⟩

theorem zeroErr : errD 0 = .nilIface := rfl
theorem errV_pos {n : Nat} (h : n ≠ 0) : errD n = .iface 65 (.int .i64 (n : Nat)) := if_neg h

/-- What a name's file is, for an operation: a pointer, or what is wrong. -/
def FileRes (left : Int) (o : Option Nat) (e : Ending) : Prop :=
  (didB left = false ∧ e = .returned (.tuple #[.pointer none, .iface 65 (.int .i64 14)])) ∨
  (didB left = true ∧ o = none ∧ e = .returned (.tuple #[.pointer none, .iface 65 (.int .i64 7)])) ∨
  (didB left = true ∧ ∃ b, o = some b ∧ e = .returned (.tuple #[.pointer (some ⟨b, 0, none⟩), .nilIface]))

/-- A name's file, for an operation. -/
theorem file_any {w : World} {p mb : Nat} {fs : List (Nm × Nat)} {sv : Nat → Value} {con : Nat → Fl} {room : Nat} {left : Int} (h : Dm w p mb fs sv con room left) (hl : -1 ≤ left ∧ left ≤ 9223372036854775807) (s : ByteArray) (hs : s.size ≤ maxLen) :
    Calls Tryz.prog 88 #[.pointer (some ⟨p, 0, none⟩), .string s] w fun e w' =>
      FileRes left (fs.lookup s.data.toList) e ∧ Dm w' p mb fs sv con room (stepL left) ∧ Chg (fun k => k = p) w w' := by
  have HW := Lib.hid (works_any h hl)
  have HS := Lib.hid hs
  clear h hs hl
  go_enter Tryz.func88, Tryz.ntmps88
  go_wp2_with (go_at_call 126; refine HW.out.mono ?_)
  rintro e w1 ⟨rfl, hd1, hc1⟩
  have HC1 := Lib.hid hc1
  have c0 := hd1.c.cell (j := 0) rfl
  have hlk := hd1.m.look HS.out
  have HD1 := Lib.hid hd1
  clear hd1 hc1 HW
  obtain ⟨x, hx⟩ : ∃ x, didB left = x := ⟨_, rfl⟩
  have HX := Lib.hid hx
  rw [hx]
  clear hx
  cases x with
  | false =>
    clear hlk c0
    go_wp2_with fail
    go_ret2
    exact ⟨.inl ⟨HX.out, rfl⟩, HD1.out, HC1.out⟩
  | true =>
    obtain ⟨o, ho⟩ : ∃ o, fs.lookup s.data.toList = o := ⟨_, rfl⟩
    have HO := Lib.hid ho
    rw [ho] at hlk
    clear ho
    cases o with
    | none =>
      simp only [ptrOf, Option.map_none] at hlk
      go_wp2_with fail
      go_ret2
      exact ⟨.inr (.inl ⟨HX.out, HO.out, rfl⟩), HD1.out, HC1.out⟩
    | some b =>
      simp only [ptrOf, Option.map_some] at hlk
      go_wp2_with fail
      go_ret2
      exact ⟨.inr (.inr ⟨HX.out, b, HO.out, rfl⟩), HD1.out, HC1.out⟩
end Go.Proofs.YtdjmifaidgbbaaaGreatDoor

/-
  How many bytes files have: a range over maps.Values.
-/
set_option linter.unusedSimpArgs false
set_option linter.unusedVariables false
namespace Go.Proofs.YtdjmifaidgbbaaaGreatDoor
open Go.RowKit Go.Maps Go.Sort Go.Shelf
attribute [local go_sem] Oper.semAt_some

def usedOf (con : Nat → Fl) (bs : List Nat) : Nat := (bs.map fun b => (con b).bytes.length).sum
theorem usedOf_perm {con : Nat → Fl} {a b : List Nat} (h : a.Perm b) : usedOf con a = usedOf con b := (h.map _).sum_nat
theorem usedOf_snoc (con : Nat → Fl) (a : List Nat) (x : Nat) : usedOf con (a ++ [x]) = usedOf con a + (con x).bytes.length := by simp [usedOf]
theorem usedOf_mem {con : Nat → Fl} : ∀ {a : List Nat} {x : Nat}, x ∈ a → (con x).bytes.length ≤ usedOf con a
  | b :: r, x, h => by
    rcases List.mem_cons.1 h with rfl | h
    · simp [usedOf]
    · have := usedOf_mem (con := con) h
      simp [usedOf] at this ⊢
      omega

theorem usedOf_le {con : Nat → Fl} {M : Nat} : ∀ {a : List Nat}, (∀ x ∈ a, (con x).bytes.length ≤ M) → usedOf con a ≤ a.length * M
  | [], _ => by simp [usedOf]
  | b :: r, h => by
    have h1 := h b (by simp)
    have h2 := usedOf_le (a := r) (fun x hx => h x (by simp [hx]))
    simp only [usedOf, List.map_cons, List.sum_cons, List.length_cons, Nat.succ_mul] at h2 ⊢
    omega
theorem usedOf_fs (con : Nat → Fl) (fs : List (Nm × Nat)) : (fs.map fun q => (con q.2).bytes.length).sum = usedOf con (fs.map (·.2)) := by
  unfold usedOf
  rw [List.map_map]
  rfl
theorem box_own {β : Type} (B : Nat) (t : TypeId) (f : β → List Value) : _root_.Go.Own (fun s W => Box W B (f s) t) := fun s X Y row hs hg hrow => by
  have h1 : X.heap[B]? = _ := hs
  have hlt := (Array.getElem?_eq_some_iff.1 h1).1
  refine (hg.block B hlt (fun e => ?_)).trans h1
  obtain ⟨o, ho, hc⟩ := hrow B e.symm
  rw [h1] at ho
  cases ho; cases hc

set_option maxRecDepth 100000 in
set_option maxHeartbeats 2000000 in
theorem used_in {w : World} {p mb : Nat} {fs : List (Nm × Nat)} {sv : Nat → Value} {con : Nat → Fl} {room : Nat} {left : Int} (h : Dm w p mb fs sv con room left) (hu : usedOf con (fs.map (·.2)) ≤ 1048576) (hfn : fs.length ≤ 200) :
    CallsIn Fence.wide 6 Tryz.prog 132 #[.pointer (some ⟨p, 0, none⟩)] w fun e w' => e = .returned (.int .i64 (usedOf con (fs.map (·.2)) : Nat)) ∧ Below w.heap.size w w' := by
  have hal := (Chg.refl Nil w).alloc (.cells #[.int .i64 0] 3)
  have c0 := hal.cell (h.c.cell (j := 0) rfl) (fun h => h)
  have hB1 : Box (w.alloc (.cells #[.int .i64 0] 3)) w.heap.size [.int .i64 0] 3 := Box.new w [.int .i64 0] _
  have hal2 := hal.alloc (.cells #[.map (some mb)] 94)
  have hD0 := h.chg hal2 (fun _ _ h => h)
  have hB2 := hB1.chg ((Chg.refl Nil _).alloc (.cells #[.map (some mb)] 94)) (fun h => h)
  have hB3 : Box ((w.alloc (.cells #[.int .i64 0] 3)).alloc (.cells #[.map (some mb)] 94)) (w.heap.size + 1) [.map (some mb)] 94 := by
    have := Box.new (w.alloc (.cells #[.int .i64 0] 3)) [.map (some mb)] 94
    rwa [World.size_alloc] at this
  have hs2 : ((w.alloc (.cells #[.int .i64 0] 3)).alloc (.cells #[.map (some mb)] 94)).heap.size = w.heap.size + 2 := by simp
  have hBW : Below w.heap.size w ((w.alloc (.cells #[.int .i64 0] 3)).alloc (.cells #[.map (some mb)] 94)) := hal2.below (fun _ _ h => h)
  refine callsIn_of_wp_marks Tryz.func132 rfl trivial ?_ rfl
  simp only [Tryz.ntmps132, List.size_toArray, List.length_cons, List.length_nil, Nat.reduceAdd, Nat.reduceSub, Array.replicate_succ, Array.replicate_zero, List.push_toArray, List.append_toArray, List.nil_append, List.cons_append]
  have hfv : Fence.wide.fn 162 := trivial
  gi_wp2_with (gi_at_call 162; refine (mvalues_in Fence.wide _ trivial rfl _ _).mono ?_; rintro e w' ⟨rfl, rfl⟩)
  generalize (w.alloc (.cells #[.int .i64 0] 3)).alloc (.cells #[.map (some mb)] 94) = W0 at *
  have HH := Lib.hid h
  clear h c0 hal hal2
  refine wpIn_rangeFunc_ownF (α := {b : Nat // b ∈ fs.map (·.2)}) rfl (by omega) (gf := 187) (lb := #[.pointer (some ⟨w.heap.size + 1, 0, none⟩)]) rfl trivial (enters_of Tryz.func187 (by kernel_rfl) rfl)
    (values_stops Fence.wide _ trivial rfl (by omega) (w.heap.size + 1) mb fs W0 (by omega) (hB3.cell (j := 0) rfl) hD0.m) walksK_t walksK_b (Below.refl _ _) (fun _ => rfl)
    (fun pre W => Box W w.heap.size [.int .i64 (usedOf con (pre.map (·.1)) : Nat)] 3 ∧ Below w.heap.size w W)
    (fun _ _ _ => False)
    (OwnFrom.and (_root_.Go.Own.from (box_own _ _ _) _) (ownFrom_below (Nat.le_refl _) (by omega)))
    (fun _ _ _ _ _ hs _ _ => hs)
    ⟨hB2, hBW⟩
    (fun x => { tmps := #[.pointer (some ⟨p, 0, none⟩), undef, .int .i64 0, .pointer (some ⟨w.heap.size, 0, none⟩), encP x.1, .pointer (some ⟨p, 0, none⟩), .pointer (some ⟨p, 0, none⟩), .pointer (some ⟨p, 0, none⟩), .map (some mb), .func (.func 187) #[] #[.pointer (some ⟨w.heap.size + 1, 0, none⟩)], encP x.1, undef, undef, undef, undef, undef, undef, undef, undef], defers := [] }) ?assign ?body ?done ?stop
  case assign =>
    intro l x W K hK
    gi_wp2
    exact hK
  case body =>
    rintro l pre ⟨x, hx⟩ W ⟨hbox, hB⟩ hlen
    obtain ⟨q, hq, rfl⟩ := List.mem_map.1 hx
    have hc := Chg.of_below hB Nil
    have hfile := (HH.out.f q hq).chg hc (fun h => h)
    obtain ⟨a, c, hsv, _, _⟩ := (HH.out.o q hq).form
    have y0 := hfile.cell (j := 0) rfl
    rw [hsv] at y0
    have n0 := hbox.cell (j := 0) rfl
    have nf := hbox.free 0
    have hle : usedOf con (pre.map (·.1)) ≤ 209715200 := by
      have h1 := usedOf_le (con := con) (M := 1048576) (a := pre.map (·.1)) (fun y hy => by
        obtain ⟨z, _, rfl⟩ := List.mem_map.1 hy
        exact Nat.le_trans (usedOf_mem z.2) hu)
      rw [List.length_map] at h1
      have h2 : pre.length ≤ 200 := by omega
      omega
    have hle2 : (con q.2).bytes.length ≤ 1048576 := Nat.le_trans (usedOf_mem hx) hu
    have hsn : usedOf con ((pre ++ [(⟨q.2, hx⟩ : {b : Nat // b ∈ fs.map (·.2)})]).map (·.1)) = usedOf con (pre.map (·.1)) + (con q.2).bytes.length := by
      rw [List.map_append]
      exact usedOf_snoc con _ _
    have HSN := Lib.hid hsn
    clear hsn
    obtain ⟨u, hu9⟩ : ∃ u, usedOf con (pre.map (·.1)) = u := ⟨_, rfl⟩
    rw [hu9] at n0 hle hbox HSN
    obtain ⟨m, hm9⟩ : ∃ m, (con q.2).bytes.length = m := ⟨_, rfl⟩
    rw [hm9] at y0 hle2 HSN
    have hw : wrap64 ((u : Int) + (m : Int)) = ((u + m : Nat) : Int) := by unfold wrap64; omega
    have hw2 : IntKind.i64.wrap ((u : Int) + (m : Int)) = ((u + m : Nat) : Int) := by
      have : IntKind.i64.wrap ((u : Int) + (m : Int)) = wrap64 ((u : Int) + (m : Int)) := by go_bits; trivial
      rw [this, hw]
    have hset := hbox.set 0 (.int .i64 ((u : Int) + (m : Int)))
    have HS := Lib.hid hset
    have HB := Lib.hid hB
    clear hset hB hfile hc hbox hu9 hm9 hle hle2 hsv
    simp only [encP, ptrOf, Option.map_some]
    have hmx : Tryz.prog.follows .mixedOrders = true := by kernel_rfl
    gi_wp2
    gi_region_with_o (fail)
    all_goals gi_wp2
    all_goals (refine ⟨(KeepsOthers.setCell _ _ _).trans (KeepsOthers.drew _), ((KeepsOthers.setCell _ _ _).trans (KeepsOthers.drew _)).walks, ?_, ?_⟩)
    all_goals first
      | exact (HB.out.setCell (p := ⟨w.heap.size, 0, none⟩) (Nat.le_refl _) _).drew
      | (rw [HSN.out, Int.natCast_add]; exact HS.out)
  case done =>
    rintro D xs W hD hS ⟨hbox, hB⟩ hK
    have n0 := hbox.cell (j := 0) rfl
    rw [usedOf_perm hS] at n0
    gi_wp2
    refine ⟨by simp, .inl ⟨_, _, rfl, run_takeDeferred hK, ?_⟩⟩
    exact ⟨_, results_tmp rfl _ _ _, rfl, hB.trans (belowK_b (w := w) (Nat.le_refl _) W D _ _ (by omega) hK rfl rfl)⟩
  case stop =>
    rintro D c pre W _ _ h _
    exact h.elim
end Go.Proofs.YtdjmifaidgbbaaaGreatDoor
