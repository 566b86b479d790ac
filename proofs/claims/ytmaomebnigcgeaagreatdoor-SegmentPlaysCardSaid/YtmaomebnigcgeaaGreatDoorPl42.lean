/-
  The walk of SegmentPlays.
-/
import Derived.Test.YtmaomebnigcgeaaGreatDoorPl41
import Derived.Deep.CutBlock
import Derived.Deep.CutRange
import Derived.Deep.DeepCutAuto
set_option linter.unusedSimpArgs false
set_option linter.unusedVariables false
namespace Go.Proofs.YtmaomebnigcgeaaGreatDoor
open Go.RowKit Go.Maps

theorem dkused_any {w : World} {p : Nat} {S : Nat → Prop} {d : Dk} (h : DiskAt w p S d) : Calls Tryz.prog 26 #[.pointer (some ⟨p, 0, none⟩)] w fun e w'' => e = .returned (.int .i64 (d.used : Nat)) ∧ Chg Nil w w'' := by
  obtain ⟨mb, fs, sv, con, hd, hfs, hS, hok⟩ := h
  have hu : d.used ≤ 1048576 := Nat.le_trans hok.fits hok.room
  have hl : fs.length ≤ 200 := by have := hok.few; rw [hfs, List.length_map] at this; exact this
  have he : usedOf con (fs.map (·.2)) = d.used := by unfold Dk.used; rw [hfs]; exact (used_eq con fs).symm
  have := used_any hd (by rw [he]; exact hu) hl
  rw [he] at this
  exact this
/-- One step of the law: what is asked, its numbers, its batch. -/
structure Pt where
  what : Int
  a : Int
  b : Int
  bt : Bt
  ra : Option Addr
  rc : Nat
def Pt.cells (p : Pt) : List Value := [.int .i64 p.what, .int .i64 p.a, .int .i64 p.b, .int .i64 p.bt.base, .int .i64 p.bt.en, .slice p.ra p.bt.rs.length p.rc]
def PtsAt (w : World) (xa : Option Addr) (xs : List Pt) : Prop := ∀ i (h : i < xs.length), ∃ b off, xa = some ⟨b, off, none⟩ ∧ ∀ j u, (xs[i].cells)[j]? = some u → w.cell? ⟨b, off + i * 6 + j, none⟩ = some u
structure Pt.Ok (w : World) (p : Pt) : Prop where
  recs : RecsAt w p.ra p.bt.rs
  rok : ∀ r ∈ p.bt.rs, Rec.Ok r
  base : -9223372036854775808 ≤ p.bt.base ∧ p.bt.base ≤ 9223372036854775807
  en : -9223372036854775808 ≤ p.bt.en ∧ p.bt.en ≤ 9223372036854775807
  len : p.bt.rs.length ≤ maxLen
theorem DsS.start {w w1 : World} {p mb r : Nat} (hr : r ≤ 1048576) (hp : w.heap.size ≤ p) (hm : w.heap.size ≤ mb) (hd : Dm w1 p mb [] (fun _ => undef) (fun _ => ⟨[], 0⟩) r (-1)) (hc1 : Chg Nil w w1) :
    DsS (fun k => k < w.heap.size) w1 p (fun k => w.heap.size ≤ k ∧ k < w1.heap.size) (Dk.fresh r) := by
  have hz := hc1.size
  refine ⟨fun k hk => by omega, ?_, fun k hk => ⟨by omega, hk.2⟩⟩
  refine ⟨mb, [], _, _, hd, rfl, fun k hk => ⟨?_, hd.lt k hk⟩, ⟨by simp [Dk.fresh, Dk.names], by simp [Dk.fresh], by simp [Dk.fresh, Dk.used], hr, by simp [Dk.fresh], by simp [Dk.fresh], by simp [Dk.fresh, Dk.names]⟩⟩
  rcases hk with rfl | rfl | ⟨q, hq, _⟩
  · exact hp
  · exact hm
  · simp at hq
theorem fresh_make {r : Nat} {nm : Nm} (hk : dkName nm = true) : ∃ d', (Dk.fresh r).make nm = (0, d') ∧ One d' r nm [] := by
  unfold Dk.make
  rw [if_neg (by simp [Dk.does, didB, Dk.fresh]), if_neg (by rw [hk]; simp)]
  refine ⟨_, rfl, ⟨0, rfl⟩, rfl, rfl⟩
set_option maxHeartbeats 0 in
set_option maxRecDepth 100000 in
theorem segmentPlays_range (base : Int) (r : Nat) (hr : r ≤ 1048576) (xa : Option Addr) (xn xc : Nat) (w : World) (hxn : xn ≤ 40) (hgh : Handle w) (hb : base < 0 ∨ 1099511627776 < base) :
    Calls Tryz.prog 3 #[.int .i64 base, .int .i64 (r : Nat), .slice xa xn xc] w fun e w' => e = .returned (.bool true) ∧ Chg Nil w w' := by
  have h0 : ¬ (r : Int) < 0 := by omega
  have h1 : ¬ (1048576 : Int) < (r : Int) := by omega
  have h40 : ¬ (40 : Int) < (xn : Int) := by omega
  have HNEW := Lib.hid (new_any r hr w)
  have HGH := Lib.hid hgh
  have HMK := Lib.hid (fun (p : Nat) (w' : World) => smake_range (w := w') p ⟨#[115]⟩ base hb)
  clear hgh hr
  go_enter Tryz.func3, Tryz.ntmps3
  go_wp2_with fail
  refine HNEW.out.mono ?_
  rintro e w1 ⟨p, mb, rfl, hp, hmb, hdm, hc1⟩
  have HC1 := Lib.hid hc1
  clear hp hmb hdm hc1
  go_wp2_with fail
  refine (HMK.out p w1).mono ?_
  rintro e w2 ⟨rfl, h2⟩
  obtain rfl := h2
  have hev : errD 2 = .iface 32 (.int .i64 2) := rfl
  rw [hev]
  have HBA : Hid (Calls Tryz.prog 7 #[.iface 32 (.int .i64 2), .int .i64 2] w1 fun e w' => e = .returned (.bool true) ∧ Chg Nil w1 w') := lawBare_any 2 w1 (HGH.out.chg HC1.out (fun h => h))
  by_cases hlo : base < 0
  · clear hb
    go_wp2_with fail
    refine HBA.out.mono ?_
    rintro e w3 ⟨rfl, hc3⟩
    go_wp2_with fail
    go_ret
    exact ⟨rfl, HC1.out.trans hc3 (fun _ h => h.elim)⟩
  · have hhi : (1099511627776 : Int) < base := by omega
    clear hb
    go_wp2_with fail
    refine HBA.out.mono ?_
    rintro e w3 ⟨rfl, hc3⟩
    go_wp2_with fail
    go_ret
    exact ⟨rfl, HC1.out.trans hc3 (fun _ h => h.elim)⟩
end Go.Proofs.YtmaomebnigcgeaaGreatDoor

/-
  What the walk of SegmentPlays leans on.
-/
set_option linter.unusedSimpArgs false
set_option linter.unusedVariables false
namespace Go.Proofs.YtmaomebnigcgeaaGreatDoor
open Go.RowKit Go.Maps

theorem SdS.nil {n0 : Nat} {w w' : World} {p s q room : Nat} {nm : Nm} {base : Int} {S : Nat → Prop} {v vq : Value} {d : Dk} {g : Sg} {ms : List Bm} (h : SdS n0 w p s q room nm base S v vq d g ms) (hc : Chg Nil w w') : SdS n0 w' p s q room nm base S v vq d g ms :=
  ⟨h.sg.nil hc, h.sq.chg hc (fun _ _ h => h), h.one, h.of, h.name, h.base, h.fits, h.new, h.apart⟩
theorem SdS.few {n0 : Nat} {w : World} {p s q room : Nat} {nm : Nm} {base : Int} {S : Nat → Prop} {v vq : Value} {d : Dk} {g : Sg} {ms : List Bm} (h : SdS n0 w p s q room nm base S v vq d g ms) (hr : room ≤ 1048576) : ms.length ≤ 99999 := by
  have h1 := batBs_len h.of.ok
  have h2 := h.fits
  rw [List.length_map] at h1
  omega
/-- An operation of the segment that leaves its batches. -/
theorem SdS.op {n0 : Nat} {w w' : World} {p s s' q room : Nat} {nm : Nm} {base : Int} {S S' : Nat → Prop} {v v' vq : Value} {d d' : Dk} {g g' : Sg} {ms : List Bm} (h : SdS n0 w p s q room nm base S v vq d g ms) (h2 : SgS (KpB n0 q vq ms) w' p s' S' v' d' g') (hc : Chg (Off (KpB n0 q vq ms)) w w')
    (h1 : One d' room nm (batBs (ms.map Bm.b))) (ho : SgOf g' (ms.map Bm.b)) (hn : g'.name = nm) (hb : g'.base = base) : SdS n0 w' p s' q room nm base S' v' vq d' g' ms :=
  ⟨h2, h.sq.chg hc (fun k hk hn => hn (.inr hk)), h1, ho, hn, hb, h.fits, h.new, h.apart⟩
theorem KpB.off {n0 q : Nat} {vq : Value} {ms : List Bm} {w w' : World} (h : Chg (Off (KpB n0 q vq ms)) w w') : Chg (fun k => n0 ≤ k) w w' := h.weak (fun k hk => .inl (Nat.le_of_not_lt fun hl => hk (.inl hl)))
theorem box_ne {w : World} {g : Nat} {cs : List Value} {t e : TypeId} {sz n : Nat} {v : Value} {xs : List Value} (hb : Box w g cs t) (h : w.ownsRow 0 e sz v n xs) (hne : t ≠ e) : ¬ v.ownBlock = some g := by
  intro hk
  rcases h.2 with ⟨rfl, _⟩ | ⟨g', cap, cur, rfl, _, hg, _⟩
  · cases hk
  · obtain rfl : g' = g := Option.some.inj hk
    have hq : w.heap[g']? = _ := hb
    rw [hq] at hg
    exact hne (Obj.cells.inj (Option.some.inj hg)).2.1
theorem SgS.growB {B : Nat → Prop} {w w' : World} {p s : Nat} {S : Nat → Prop} {v : Value} {d : Dk} {g : Sg} (h : SgS B w p s S v d g) (hc : Chg B w w') : SgS (fun k => B k ∨ (w.heap.size ≤ k ∧ k < w'.heap.size)) w' p s S v d g := by
  have h2 := h.kept hc
  refine ⟨fun k hk => hk.elim (h2.lo k) (·.2), h2.a, h2.m, h2.ap, fun k hk => ⟨?_, (h2.sl k hk).2⟩, fun k hk => ?_⟩
  · rintro (hb | hb)
    · exact (h2.sl k hk).1 hb
    · have := (h.sl k hk).2; omega
  · rintro (hb | hb)
    · exact h2.ml k hk hb
    · have := h.m.lt k hk; omega
/-- Ahead of an append to the document's batches, and behind it. -/
def AqF (n9 : Nat) (vq : Value) (ms : List Bm) (m : Bm) : List Value → World → Prop
  | [], w => OwnQ w vq ms
  | v :: _, w => OwnQ w v (ms ++ [m]) ∧ ∀ k, v.ownBlock = some k → vq.ownBlock = some k ∨ n9 ≤ k
theorem AqF.nil {n9 : Nat} {vq : Value} {ms : List Bm} {m : Bm} {w w' : World} (hc : Chg Nil w w') : ∀ vs, AqF n9 vq ms m vs w → AqF n9 vq ms m vs w'
  | [], h => ownsRow_chg h hc (fun _ _ h => h)
  | _ :: _, ⟨h1, h2⟩ => ⟨ownsRow_chg h1 hc (fun _ _ h => h), h2⟩
/-- Between the law's answer to an Add and the segment's. -/
structure MidS (n0 : Nat) (w : World) (p s q room : Nat) (nm : Nm) (base : Int) (S : Nat → Prop) (v vq : Value) (d : Dk) (g : Sg) (ms : List Bm) (bb be : Int) (brs : List Rec) (k : Nat) : Prop where
  sg : SgS (KpB n0 q vq ms) w p s S v d g
  sq : Sq w q vq base ms
  add : ∃ d' g', addSg d g bb be brs = (k, d', g') ∧ One d' room nm (batBs (ms.map Bm.b)) ∧ SgOf g' (ms.map Bm.b) ∧ g'.name = nm ∧ g'.base = base
  fits : (batBs (ms.map Bm.b)).length ≤ room
  new : ∀ k, (k = q ∨ vq.ownBlock = some k) → n0 ≤ k
  apart : ∀ m ∈ ms, m.b.rs ≠ [] → ∀ x, m.ra = some x → x.block ≠ q ∧ vq.ownBlock ≠ some x.block
  gname : g.name = nm
  bound : g.pls.length ≤ 99999 ∧ g.size ≤ 1048576
/-- What both tell is alike. -/
structure Looks (w : World) (p s q : Nat) (bn : Nat) (nx sz nb lt : Value) : Prop where
  l1 : ∀ w', Chg Nil w w' → Calls Tryz.prog 17 #[.pointer (some ⟨s, 0, none⟩)] w' fun e w'' => e = .returned (.int .i64 (bn : Nat)) ∧ Chg Nil w' w''
  l2 : ∀ w', Chg Nil w w' → Calls Tryz.prog 18 #[.pointer (some ⟨s, 0, none⟩)] w' fun e w'' => e = .returned nx ∧ Chg Nil w' w''
  l3 : ∀ w', Chg Nil w w' → Calls Tryz.prog 10 #[.pointer (some ⟨q, 0, none⟩)] w' fun e w'' => e = .returned nx ∧ Chg Nil w' w''
  l4 : ∀ w', Chg Nil w w' → Calls Tryz.prog 19 #[.pointer (some ⟨s, 0, none⟩)] w' fun e w'' => e = .returned sz ∧ Chg Nil w' w''
  l5 : ∀ w', Chg Nil w w' → Calls Tryz.prog 11 #[.pointer (some ⟨q, 0, none⟩)] w' fun e w'' => e = .returned sz ∧ Chg Nil w' w''
  l6 : ∀ w', Chg Nil w w' → Calls Tryz.prog 20 #[.pointer (some ⟨s, 0, none⟩)] w' fun e w'' => e = .returned nb ∧ Chg Nil w' w''
  l7 : ∀ w', Chg Nil w w' → Calls Tryz.prog 21 #[.pointer (some ⟨s, 0, none⟩)] w' fun e w'' => e = .returned lt ∧ Chg Nil w' w''
  l8 : ∀ w', Chg Nil w w' → Calls Tryz.prog 22 #[.pointer (some ⟨q, 0, none⟩)] w' fun e w'' => e = .returned lt ∧ Chg Nil w' w''
theorem SdS.looks {n0 : Nat} {w : World} {p s q room bn : Nat} {nm : Nm} {S : Nat → Prop} {v vq : Value} {d : Dk} {g : Sg} {ms : List Bm} (h : SdS n0 w p s q room nm (bn : Nat) S v vq d g ms) (hr : room ≤ 1048576) :
    Looks w p s q bn (.int .i64 (lastEnd (bn : Nat) (ms.map Bm.b))) (.int .i64 ((batBs (ms.map Bm.b)).length : Nat)) (.int .i64 (ms.length : Nat)) (.int .i64 (timeOf ((ms.map Bm.b).flatMap Bt.rs))) := by
  have hf := h.few hr
  have hpl : g.pls.length = ms.length := by rw [h.of.pls, plsOf_length, List.length_map]
  refine ⟨fun w' hw => ?_, fun w' hw => ?_, fun w' hw => ?_, fun w' hw => ?_, fun w' hw => ?_, fun w' hw => ?_, fun w' hw => ?_, fun w' hw => ?_⟩
  · refine (sbase_any (h.nil hw).sg.m).mono ?_
    rintro e w'' ⟨h1, h2⟩
    rw [h2, h1, h.base]
    exact ⟨rfl, Chg.refl _ _⟩
  · refine (snext_any (h.nil hw).sg.m (by omega)).mono ?_
    rintro e w'' ⟨h1, h2⟩
    rw [h1, h.of.next, h.base]
    exact ⟨rfl, h2⟩
  · exact rnext_any (h.nil hw).sq (by omega)
  · refine (ssize_any (h.nil hw).sg.m).mono ?_
    rintro e w'' ⟨h1, h2⟩
    rw [h2, h1, h.of.size]
    exact ⟨rfl, Chg.refl _ _⟩
  · exact rsize_any (h.nil hw).sq (by omega) (by have := h.fits; omega)
  · refine (sbatches_any (h.nil hw).sg.m).mono ?_
    rintro e w'' ⟨h1, h2⟩
    rw [h2, h1, hpl]
    exact ⟨rfl, Chg.refl _ _⟩
  · refine (slatest_any (h.nil hw).sg.m (by omega)).mono ?_
    rintro e w'' ⟨h1, h2⟩
    rw [h1, h.of.pls, latest_all]
    exact ⟨rfl, h2⟩
  · exact rlatest_any (h.nil hw).sq (by omega) (fun m hm => by have := (h.of.ok m.b (List.mem_map.2 ⟨m, hm, rfl⟩)).nums.few; omega)

/-- How far the law's own search has come: batch j, record m of it. -/
def SiS (l : List Bt) (t : Int) (j m : Nat) (n : Int) (is : Bool) : Prop :=
  (is = false ∧ (∀ b ∈ l.take j, ∀ r ∈ b.rs, r.time < t) ∧ ∀ b, l[j]? = some b → ∀ r ∈ b.rs.take m, r.time < t) ∨ (is = true ∧ ∃ r, sinceL l t = some r ∧ n = r.off)
theorem SiS.start {l : List Bt} {t n : Int} : SiS l t 0 0 n false := .inl ⟨rfl, fun b hb => by simp at hb, fun b _ r hr => by simp at hr⟩
theorem SiS.next {l : List Bt} {t n : Int} {j m : Nat} {is : Bool} {b : Bt} (h : SiS l t j m n is) (hb : l[j]? = some b) (hm : is = true ∨ b.rs.length ≤ m) : SiS l t (j + 1) 0 n is := by
  rcases h with ⟨hi, h1, h2⟩ | h
  · obtain ⟨hj, rfl⟩ := List.getElem?_eq_some_iff.1 hb
    refine .inl ⟨hi, ?_, fun b _ r hr => by simp at hr⟩
    rw [List.take_succ_eq_append_getElem hj]
    intro b hb2 r hr
    rcases List.mem_append.1 hb2 with hb2 | hb2
    · exact h1 b hb2 r hr
    · rw [List.mem_singleton.1 hb2] at hr
      refine h2 l[j] hb r ?_
      rw [List.take_of_length_le (hm.resolve_left (by rw [hi]; decide))]
      exact hr
  · exact .inr h
theorem SiS.found {l : List Bt} {t n : Int} {j m : Nat} {b : Bt} {r : Rec} (h : SiS l t j m n false) (hb : l[j]? = some b) (hr : b.rs[m]? = some r) (ht : t ≤ r.time) : SiS l t j (m + 1) r.off true := by
  rcases h with ⟨_, h1, h2⟩ | ⟨h, _⟩
  · obtain ⟨hj, rfl⟩ := List.getElem?_eq_some_iff.1 hb
    obtain ⟨hm, rfl⟩ := List.getElem?_eq_some_iff.1 hr
    exact .inr ⟨rfl, _, since_found hj hm h1 (h2 _ hb) ht, rfl⟩
  · cases h
theorem SiS.pass {l : List Bt} {t n : Int} {j m : Nat} {b : Bt} {r : Rec} (h : SiS l t j m n false) (hb : l[j]? = some b) (hr : b.rs[m]? = some r) (ht : ¬ t ≤ r.time) : SiS l t j (m + 1) n false := by
  rcases h with ⟨_, h1, h2⟩ | ⟨h, _⟩
  · obtain ⟨hm, rfl⟩ := List.getElem?_eq_some_iff.1 hr
    refine .inl ⟨rfl, h1, fun b' hb' r' hr' => ?_⟩
    obtain rfl : b' = b := Option.some.inj (hb'.symm.trans hb)
    rw [List.take_succ_eq_append_getElem hm] at hr'
    rcases List.mem_append.1 hr' with hr' | hr'
    · exact h2 _ hb _ hr'
    · rw [List.mem_singleton.1 hr']; omega
  · cases h
theorem SiS.fin {l : List Bt} {t n kv : Int} {j : Nat} {is okv : Bool} (h : SiS l t j 0 n is) (hj : is = true ∨ l.length ≤ j) (hv : sinceV (sinceL l t) = .tuple #[.int .i64 kv, .bool okv]) : okv = is ∧ (is = true → kv = n) ∧ (is = false → kv = 0) := by
  rcases h with ⟨rfl, h1, _⟩ | ⟨rfl, r, hr, rfl⟩
  · rw [List.take_of_length_le (hj.resolve_left (by decide))] at h1
    rw [since_none h1] at hv
    simp [sinceV] at hv
    exact ⟨by simp [hv.2], fun h => (by cases h), fun _ => by have := hv.1; omega⟩
  · rw [hr] at hv
    simp [sinceV] at hv
    exact ⟨by simp [hv.2], fun _ => by have := hv.1; omega, fun h => (by cases h)⟩
theorem sinceV_form (o : Option Rec) : ∃ (kv : Int) (okv : Bool), sinceV o = .tuple #[.int .i64 kv, .bool okv] := by
  cases o with
  | none => exact ⟨_, _, rfl⟩
  | some r => exact ⟨_, _, rfl⟩

/-- A block of a function's code. -/
def findB (n : Nat) : Code → Option Code
  | .block k c => if k = n then some (.block k c) else findB n c
  | .loop c => findB n c
  | .scope c => findB n c
  | .seq a b => match findB n a with
    | some c => some c
    | none => findB n b
  | .cond _ a b => match findB n a with
    | some c => some c
    | none => findB n b
  | _ => none
end Go.Proofs.YtmaomebnigcgeaaGreatDoor
