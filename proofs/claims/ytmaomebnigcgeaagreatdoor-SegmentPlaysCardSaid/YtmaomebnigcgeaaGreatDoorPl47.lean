/-
  What SegmentTears keeps in memory: sizes, batches, a segment. (Of the segments' seat.)
-/
import Derived.Test.YtmaomebnigcgeaaGreatDoorPl42
import Derived.Test.YtmaomebnigcgeaaGreatDoorPl46
set_option linter.unusedSimpArgs false
set_option linter.unusedVariables false
namespace Go.Proofs.YtmaomebnigcgeaaGreatDoor
open Go.RowKit Go.Maps

/-- Rows of different kinds lie apart. -/
theorem rows_ne {w : World} {e1 e2 : TypeId} {z1 z2 n1 n2 : Nat} {v u : Value} {xs ys : List Value} (h1 : w.ownsRow 0 e1 z1 v n1 xs) (h2 : w.ownsRow 0 e2 z2 u n2 ys) (hne : e1 ≠ e2) : ∀ k, v.ownBlock = some k → u.ownBlock ≠ some k := by
  intro k hv hu
  rcases h1.2 with ⟨rfl, _⟩ | ⟨g, cap, cur, rfl, _, hg, _⟩
  · cases hv
  · obtain rfl : g = k := Option.some.inj hv
    rcases h2.2 with ⟨rfl, _⟩ | ⟨g', cap', cur', rfl, _, hg', _⟩
    · cases hu
    · obtain rfl : g' = g := Option.some.inj hu
      rw [hg] at hg'
      exact hne (Obj.cells.inj (Option.some.inj hg')).2.1
theorem box_row_ne {w : World} {g : Nat} {cs : List Value} {t e : TypeId} {sz n : Nat} {v : Value} {xs : List Value} (hb : Box w g cs t) (h : w.ownsRow 0 e sz v n xs) (hne : t ≠ e) : ¬ v.ownBlock = some g := by
  intro hk
  rcases h.2 with ⟨rfl, _⟩ | ⟨g', cap, cur, rfl, _, hg, _⟩
  · cases hk
  · obtain rfl : g' = g := Option.some.inj hk
    have hq : w.heap[g']? = _ := hb
    rw [hq] at hg
    exact hne (Obj.cells.inj (Option.some.inj hg)).2.1
/-- A slice of numbers that is the call's own. -/
def OwnI (w : World) (v : Value) (l : List Nat) : Prop := w.ownsRow 0 3 1 v l.length (l.map fun n => Value.int .i64 (n : Nat))
theorem OwnI.form {w : World} {v : Value} {l : List Nat} (h : OwnI w v l) : v = .slice (vA v) l.length (vC v) := by
  rcases h.2 with ⟨rfl, hn⟩ | ⟨g, cap, cur, rfl, _, _, hle, _⟩
  · rw [hn]; rfl
  · rfl
theorem OwnI.lt {w : World} {v : Value} {l : List Nat} (h : OwnI w v l) : ∀ k, v.ownBlock = some k → k < w.heap.size := ownsRow_lt h
theorem OwnI.val {w : World} {v : Value} {l : List Nat} (h : OwnI w v l) : ∃ a cap, v = .slice a l.length cap ∧ l.length ≤ cap ∧ ∀ i (h : i < l.length), ∃ g, a = some ⟨g, 0, none⟩ ∧ w.cell? ⟨g, i, none⟩ = some (.int .i64 (l[i] : Nat)) := by
  rcases h.2 with ⟨rfl, hn⟩ | ⟨g, cap, cur, rfl, _, _, hle, _⟩
  · exact ⟨none, 0, by rw [hn], by omega, fun i hi => absurd hi (by omega)⟩
  · have e1 : ∀ j, (⟨g, 0, none⟩ : Addr).add j = ⟨g, j, none⟩ := fun j => by unfold Addr.add; split <;> simp_all
    refine ⟨some ⟨g, 0, none⟩, cap, rfl, hle, fun i hi => ⟨g, rfl, ?_⟩⟩
    have := World.ownsRow.cells h (g := g) rfl i (.int .i64 (l[i] : Nat)) (by rw [List.getElem?_map, List.getElem?_eq_getElem hi]; rfl)
    rwa [e1] at this
theorem intT : SliceT Tryz.prog 63 3 1 8 :=
  ⟨Tryz.underlying63, by
    have h : (Tryz.prog.info? 3).map (fun i => (i.zero, i.size, i.bytes)) = some (some (.int .i64 0), 1, 8) := by kernel_rfl
    obtain ⟨i, hi, hz, h1, h2⟩ := info_parts h
    exact ⟨i, _, hi, hz, rfl, h1, h2⟩⟩
/-- Where each batch ends, the beginning ahead of them. -/
def szsOf (ms : List Bm) : List Nat := (List.range (ms.length + 1)).map fun k => (batBs ((ms.take k).map Bm.b)).length
theorem szsOf_len (ms : List Bm) : (szsOf ms).length = ms.length + 1 := by unfold szsOf; rw [List.length_map, List.length_range]
theorem szsOf_get (ms : List Bm) (k : Nat) (h : k < (szsOf ms).length) : (szsOf ms)[k] = (batBs ((ms.take k).map Bm.b)).length := by
  simp [szsOf]
theorem szsOf_snoc (ms : List Bm) (m : Bm) : szsOf (ms ++ [m]) = szsOf ms ++ [(batBs ((ms ++ [m]).map Bm.b)).length] := by
  unfold szsOf
  rw [List.length_append, List.length_singleton, List.range_succ, List.map_append, List.map_singleton]
  congr 1
  · apply List.map_congr_left
    intro k hk
    rw [List.take_append_of_le_length (by have := List.mem_range.1 hk; omega)]
  · congr 2
    rw [List.take_of_length_le (by rw [List.length_append, List.length_singleton]; omega)]
/-- A segment, and what it has. -/
def SgI (B : Nat → Prop) (w : World) (p s : Nat) (S : Nat → Prop) (v : Value) (nm : Nm) (base : Int) (l : List Bt) : Prop :=
  ∃ d g, SgS B w p s S v d g ∧ One d 1048576 nm (batBs l) ∧ SgOf g l ∧ g.name = nm ∧ g.base = base
theorem SgI.nil {B : Nat → Prop} {w w' : World} {p s : Nat} {S : Nat → Prop} {v : Value} {nm : Nm} {base : Int} {l : List Bt} (h : SgI B w p s S v nm base l) (hc : Chg Nil w w') : SgI B w' p s S v nm base l := by
  obtain ⟨d, g, h1, h2⟩ := h
  exact ⟨d, g, h1.nil hc, h2⟩
theorem SgS.growC {B : Nat → Prop} {w w' : World} {p s : Nat} {S : Nat → Prop} {v : Value} {d : Dk} {g : Sg} (h : SgS B w p s S v d g) (hc : Chg B w w') : SgS (fun k => B k ∨ (w.heap.size ≤ k ∧ k < w'.heap.size)) w' p s S v d g := by
  have h2 := h.kept hc
  refine ⟨fun k hk => hk.elim (h2.lo k) (·.2), h2.a, h2.m, h2.ap, fun k hk => ⟨?_, (h2.sl k hk).2⟩, fun k hk => ?_⟩
  · rintro (hb | hb)
    · exact (h2.sl k hk).1 hb
    · have := (h.sl k hk).2; omega
  · rintro (hb | hb)
    · exact h2.ml k hk hb
    · have := h.m.lt k hk; omega
theorem SgI.grow {B : Nat → Prop} {w w' : World} {p s : Nat} {S : Nat → Prop} {v : Value} {nm : Nm} {base : Int} {l : List Bt} (h : SgI B w p s S v nm base l) (hc : Chg B w w') : SgI (fun k => B k ∨ (w.heap.size ≤ k ∧ k < w'.heap.size)) w' p s S v nm base l := by
  obtain ⟨d, g, h1, h2⟩ := h
  exact ⟨d, g, h1.growC hc, h2⟩
theorem SgI.lo {B : Nat → Prop} {w : World} {p s : Nat} {S : Nat → Prop} {v : Value} {nm : Nm} {base : Int} {l : List Bt} (h : SgI B w p s S v nm base l) : ∀ k, B k → k < w.heap.size := by
  obtain ⟨d, g, h1, h2⟩ := h
  exact h1.lo
theorem SgI.nums {B : Nat → Prop} {w : World} {p s : Nat} {S : Nat → Prop} {v : Value} {nm : Nm} {base : Int} {l : List Bt} (h : SgI B w p s S v nm base l) : (∀ b ∈ l, b.Ok) ∧ rising base l := by
  obtain ⟨d, g, h1, h2, h3, h4, h5⟩ := h
  exact ⟨h3.ok, h5 ▸ h3.up⟩
/-- Next, Size, Batches of it. -/
theorem SgI.next {B : Nat → Prop} {w : World} {p s : Nat} {S : Nat → Prop} {v : Value} {nm : Nm} {base : Int} {l : List Bt} (h : SgI B w p s S v nm base l) (hl : l.length ≤ 1000) :
    Calls Tryz.prog 18 #[.pointer (some ⟨s, 0, none⟩)] w fun e w' => e = .returned (.int .i64 (lastEnd base l)) ∧ Chg Nil w w' := by
  obtain ⟨d, g, h1, h2, h3, h4, h5⟩ := h
  have h6 := snext_any h1.m (by rw [h3.pls, plsOf_length]; omega)
  rw [h3.next, h5] at h6
  exact h6
theorem SgI.size {B : Nat → Prop} {w : World} {p s : Nat} {S : Nat → Prop} {v : Value} {nm : Nm} {base : Int} {l : List Bt} (h : SgI B w p s S v nm base l) :
    Calls Tryz.prog 19 #[.pointer (some ⟨s, 0, none⟩)] w fun e w' => e = .returned (.int .i64 ((batBs l).length : Nat)) ∧ Chg Nil w w' := by
  obtain ⟨d, g, h1, h2, h3, h4, h5⟩ := h
  refine (ssize_any h1.m).mono ?_
  rintro e w' ⟨h6, h7⟩
  rw [h7, h6, h3.size]
  exact ⟨rfl, Chg.refl _ _⟩
theorem SgI.batches {B : Nat → Prop} {w : World} {p s : Nat} {S : Nat → Prop} {v : Value} {nm : Nm} {base : Int} {l : List Bt} (h : SgI B w p s S v nm base l) :
    Calls Tryz.prog 20 #[.pointer (some ⟨s, 0, none⟩)] w fun e w' => e = .returned (.int .i64 (l.length : Nat)) ∧ Chg Nil w w' := by
  obtain ⟨d, g, h1, h2, h3, h4, h5⟩ := h
  refine (sbatches_any h1.m).mono ?_
  rintro e w' ⟨h6, h7⟩
  rw [h7, h6, h3.pls, plsOf_length]
  exact ⟨rfl, Chg.refl _ _⟩
/-- A batch of records put behind the last one: if it may be, it is there; if not, all is as it was. -/
theorem SgI.add {B : Nat → Prop} {w : World} {p s : Nat} {S : Nat → Prop} {v : Value} {nm : Nm} {base : Int} {l : List Bt} (h : SgI B w p s S v nm base l) (hnm : nm.length ≤ 1000) (hl : l.length ≤ 100) (h0 : 0 ≤ base) (hhi : lastEnd base l ≤ 1099511627776)
    (u : Value) (rs : List Rec) (hu : OwnR 55 w u (numbered (lastEnd base l) rs)) (hub : ∀ k, u.ownBlock = some k → B k) (hrl : rs.length ≤ 100) (hok : ∀ r ∈ rs, Rec.Ok r) :
    Calls Tryz.prog 12 #[.pointer (some ⟨s, 0, none⟩), .agg #[.int .i64 (lastEnd base l), .int .i64 (lastEnd base l + rs.length), .slice (vA u) (numbered (lastEnd base l) rs).length (vC u)]] w fun e w' =>
      e = .returned (errD (encErr (lastEnd base l) (lastEnd base l + rs.length) (numbered (lastEnd base l) rs))) ∧
      (encErr (lastEnd base l) (lastEnd base l + rs.length) (numbered (lastEnd base l) rs) ≠ 0 → ∃ S' v', SgI B w' p s S' v' nm base l) ∧
      (encErr (lastEnd base l) (lastEnd base l + rs.length) (numbered (lastEnd base l) rs) = 0 → ∃ S' v', SgI B w' p s S' v' nm base (l ++ [⟨lastEnd base l, lastEnd base l + rs.length, numbered (lastEnd base l) rs⟩])) ∧ Chg (Off B) w w' := by
  obtain ⟨d, g, h1, h2, h3, h4, h5⟩ := h
  have hb0 : base ≤ lastEnd base l := (lastEnd_le h3.ok (h5 ▸ h3.up)).1
  have hnx : g.next = lastEnd base l := by rw [h3.next, h5]
  obtain ⟨nx, hn⟩ : ∃ nx, lastEnd base l = nx := ⟨_, rfl⟩
  rw [hn] at hhi hu hb0 hnx ⊢
  obtain ⟨ua, uc, hue, hrecs, hule⟩ := hu.recs
  have hua : vA u = ua := by rw [hue]; rfl
  have huc : vC u = uc := by rw [hue]; rfl
  rw [hua, huc]
  have hnl : (numbered nx rs).length = rs.length := numbered_length nx rs
  have hnok : ∀ r ∈ numbered nx rs, Rec.Ok r := numbered_ok' (by omega) (by omega) hok
  have hlim := batBs_lim h3.ok
  have hsz := h3.size
  have hA := sadd_any h1 (by rw [h4]; exact hnm) (by rw [h3.pls, plsOf_length]; omega) (by omega) nx (nx + rs.length) ua (numbered nx rs) uc (by omega) (by omega) (by omega) hnok hrecs (fun hne x hx hs => by
    refine (h1.sl _ hs).1 (hub x.block ?_)
    rcases hu.2 with ⟨hz, hn0⟩ | ⟨g', cap', cur', hz, _⟩
    · rw [hz] at hue
      have := (Value.slice.inj hue).1
      rw [← this] at hx
      cases hx
    · rw [hz] at hue ⊢
      have := (Value.slice.inj hue).1
      rw [← this] at hx
      obtain rfl := Option.some.inj hx
      rfl) (fun he => (Bt.Ok.nums (b := ⟨nx, nx + rs.length, numbered nx rs⟩) ⟨he, hnok⟩).len)
  refine hA.mono ?_
  rintro e w' ⟨he, ⟨S', v', h6⟩, h7⟩
  by_cases hk : encErr nx (nx + rs.length) (numbered nx rs) = 0
  · have hb : Bt.Ok ⟨nx, nx + rs.length, numbered nx rs⟩ := ⟨hk, hnok⟩
    have h8 := addSg_ok (d := d) (g := g) hb (by rw [hnx]; exact Int.le_refl nx)
    have hbl := hb.nums.len
    obtain ⟨d', hd', ho'⟩ := (h2.add (Bt.bytes ⟨nx, nx + rs.length, numbered nx rs⟩)).2 (by omega)
    rw [h4, hd', if_pos rfl] at h8
    have h9 : addSg d g nx (nx + rs.length) (numbered nx rs) = _ := h8
    rw [h9] at he h6
    refine ⟨by rw [he, hk], fun hne => absurd hk hne, fun _ => ⟨S', v', _, _, h6, ?_, h3.noted hb (by rw [hnx]; exact Int.le_refl nx), h4, h5⟩, h7⟩
    rw [batBs_snoc]
    exact ho'
  · have h9 : addSg d g nx (nx + rs.length) (numbered nx rs) = (encErr nx (nx + rs.length) (numbered nx rs), d, g) := by unfold addSg; rw [if_pos hk]
    rw [h9] at he h6
    exact ⟨he, fun _ => ⟨S', v', d, g, h6, h2, h3, h4, h5⟩, fun h => absurd h hk, h7⟩
/-- What the law keeps: sizes and batches. -/
structure TrK (n0 : Nat) (w : World) (B : Nat → Prop) (sv av : Value) (ms : List Bm) : Prop where
  sz : OwnI w sv (szsOf ms)
  al : OwnM w av ms
  rcs : ∀ m ∈ ms, OwnR 55 w (.slice m.ra m.b.rs.length m.rc) m.b.rs ∧ ∀ k, (Value.slice m.ra m.b.rs.length m.rc).ownBlock = some k → B k
  b0 : ∀ k, k < n0 → B k
  bs : ∀ k, sv.ownBlock = some k → B k ∧ n0 ≤ k
  ba : ∀ k, av.ownBlock = some k → B k ∧ n0 ≤ k
theorem OwnR.chg {S : Nat → Prop} {w w' : World} {e : TypeId} {v : Value} {rs : List Rec} (h : OwnR e w v rs) (hc : Chg S w w') (hn : ∀ k, v.ownBlock = some k → ¬ S k) : OwnR e w' v rs := ownsRow_chg h hc hn
theorem TrK.nil {n0 : Nat} {w w' : World} {B : Nat → Prop} {sv av : Value} {ms : List Bm} (h : TrK n0 w B sv av ms) (hc : Chg Nil w w') : TrK n0 w' B sv av ms :=
  ⟨ownsRow_chg h.sz hc (fun _ _ h => h), ownsRow_chg h.al hc (fun _ _ h => h), fun m hm => ⟨(h.rcs m hm).1.chg hc (fun _ _ h => h), (h.rcs m hm).2⟩, h.b0, h.bs, h.ba⟩
/-- New blocks are kept from now on. -/
theorem TrK.grow {n0 : Nat} {w w' : World} {B : Nat → Prop} {sv av : Value} {ms : List Bm} (h : TrK n0 w B sv av ms) (hc : Chg Nil w w') : TrK n0 w' (fun k => B k ∨ (w.heap.size ≤ k ∧ k < w'.heap.size)) sv av ms :=
  ⟨ownsRow_chg h.sz hc (fun _ _ h => h), ownsRow_chg h.al hc (fun _ _ h => h), fun m hm => ⟨(h.rcs m hm).1.chg hc (fun _ _ h => h), fun k hk => .inl ((h.rcs m hm).2 k hk)⟩, fun k hk => .inl (h.b0 k hk), fun k hk => ⟨.inl (h.bs k hk).1, (h.bs k hk).2⟩, fun k hk => ⟨.inl (h.ba k hk).1, (h.ba k hk).2⟩⟩
/-- What the segment does: none of what is kept is changed. -/
theorem TrK.off {n0 : Nat} {w w' : World} {B : Nat → Prop} {sv av : Value} {ms : List Bm} (h : TrK n0 w B sv av ms) (hc : Chg (Off B) w w') : TrK n0 w' B sv av ms :=
  ⟨ownsRow_chg h.sz hc (fun k hk hn => hn (h.bs k hk).1), ownsRow_chg h.al hc (fun k hk hn => hn (h.ba k hk).1), fun m hm => ⟨(h.rcs m hm).1.chg hc (fun k hk hn => hn ((h.rcs m hm).2 k hk)), (h.rcs m hm).2⟩, h.b0, h.bs, h.ba⟩
theorem SgI.kept {B : Nat → Prop} {w w' : World} {p s : Nat} {S : Nat → Prop} {v : Value} {nm : Nm} {base : Int} {l : List Bt} (h : SgI B w p s S v nm base l) (hc : Chg B w w') : SgI B w' p s S v nm base l := by
  obtain ⟨d, g, h1, h2⟩ := h
  exact ⟨d, g, h1.kept hc, h2⟩
/-- Ahead of the two appends, between them, behind both. -/
def TaF (n9 : Nat) (sv av : Value) (ms : List Bm) (m : Bm) : List Value → World → Prop
  | [], w => OwnI w sv (szsOf ms) ∧ OwnM w av ms
  | [v], w => (OwnI w v (szsOf (ms ++ [m])) ∧ ∀ k, v.ownBlock = some k → sv.ownBlock = some k ∨ n9 ≤ k) ∧ OwnM w av ms
  | v :: u :: _, w => (OwnI w v (szsOf (ms ++ [m])) ∧ ∀ k, v.ownBlock = some k → sv.ownBlock = some k ∨ n9 ≤ k) ∧ (OwnM w u (ms ++ [m]) ∧ ∀ k, u.ownBlock = some k → av.ownBlock = some k ∨ n9 ≤ k)
theorem TaF.nil {n9 : Nat} {sv av : Value} {ms : List Bm} {m : Bm} {w w' : World} (hc : Chg Nil w w') : ∀ vs, TaF n9 sv av ms m vs w → TaF n9 sv av ms m vs w'
  | [], h => ⟨ownsRow_chg h.1 hc (fun _ _ h => h), ownsRow_chg h.2 hc (fun _ _ h => h)⟩
  | [_], h => ⟨⟨ownsRow_chg h.1.1 hc (fun _ _ h => h), h.1.2⟩, ownsRow_chg h.2 hc (fun _ _ h => h)⟩
  | _ :: _ :: _, h => ⟨⟨ownsRow_chg h.1.1 hc (fun _ _ h => h), h.1.2⟩, ⟨ownsRow_chg h.2.1 hc (fun _ _ h => h), h.2.2⟩⟩
/-- A batch that was added stands in the law's lists too. -/
theorem TrK.more {n0 : Nat} {w w' : World} {B : Nat → Prop} {sv av sv' av' : Value} {ms : List Bm} {m : Bm} (h : TrK n0 w B sv av ms) (hn0 : n0 ≤ w.heap.size)
    (hm : OwnR 55 w (.slice m.ra m.b.rs.length m.rc) m.b.rs) (hmb : ∀ k, (Value.slice m.ra m.b.rs.length m.rc).ownBlock = some k → B k)
    (hc : Chg (fun k => sv.ownBlock = some k ∨ av.ownBlock = some k) w w') (hF : TaF w.heap.size sv av ms m [sv', av'] w') :
    TrK n0 w' (fun k => B k ∨ (w.heap.size ≤ k ∧ k < w'.heap.size)) sv' av' (ms ++ [m]) := by
  have hap : ∀ m' : Bm, OwnR 55 w (.slice m'.ra m'.b.rs.length m'.rc) m'.b.rs → OwnR 55 w' (.slice m'.ra m'.b.rs.length m'.rc) m'.b.rs := by
    intro m' h1
    refine h1.chg hc fun k hk hs => ?_
    rcases hs with hs | hs
    · exact rows_ne h1 h.sz (by decide) k hk hs
    · exact rows_ne h1 h.al (by decide) k hk hs
  refine ⟨hF.1.1, hF.2.1, fun m' hm' => ?_, fun k hk => .inl (h.b0 k hk), fun k hk => ?_, fun k hk => ?_⟩
  · rcases List.mem_append.1 hm' with hm' | hm'
    · exact ⟨hap m' (h.rcs m' hm').1, fun k hk => .inl ((h.rcs m' hm').2 k hk)⟩
    · rw [List.mem_singleton.1 hm']
      exact ⟨hap m hm, fun k hk => .inl (hmb k hk)⟩
  · rcases hF.1.2 k hk with h1 | h1
    · exact ⟨.inl (h.bs k h1).1, (h.bs k h1).2⟩
    · exact ⟨.inr ⟨h1, hF.1.1.lt k hk⟩, by omega⟩
  · rcases hF.2.2 k hk with h1 | h1
    · exact ⟨.inl (h.ba k h1).1, (h.ba k h1).2⟩
    · exact ⟨.inr ⟨h1, hF.2.1.lt k hk⟩, by omega⟩
theorem TrK.keeps {n0 : Nat} {w : World} {B : Nat → Prop} {sv av : Value} {ms : List Bm} (h : TrK n0 w B sv av ms) : ∀ k, (sv.ownBlock = some k ∨ av.ownBlock = some k) → B k ∧ n0 ≤ k ∧ k < w.heap.size := by
  rintro k (hk | hk)
  · exact ⟨(h.bs k hk).1, (h.bs k hk).2, h.sz.lt k hk⟩
  · exact ⟨(h.ba k hk).1, (h.ba k hk).2, h.al.lt k hk⟩
def vU : Value → Value | .agg a => a.getD 2 undef | _ => undef
def vP : Value → Nat | .pointer (some a) => a.block | _ => 0
def BatP (n : Nat) (nx : Int) (rs : List Rec) (v : Value) (w : World) : Prop :=
  v = .agg #[.int .i64 nx, .int .i64 (nx + rs.length), .slice (vA (vU v)) (numbered nx rs).length (vC (vU v))] ∧ OwnR 55 w (vU v) (numbered nx rs) ∧ ∀ k, (vU v).ownBlock = some k → n ≤ k
theorem BatP.nil {n : Nat} {nx : Int} {rs : List Rec} {v : Value} {w w' : World} (h : BatP n nx rs v w) (hc : Chg Nil w w') : BatP n nx rs v w' := ⟨h.1, h.2.1.chg hc (fun _ _ h => h), h.2.2⟩
def NewP (n : Nat) (cs : List Value) (t : TypeId) (v : Value) (w : World) : Prop := v = .pointer (some ⟨vP v, 0, none⟩) ∧ n ≤ vP v ∧ Box w (vP v) cs t
theorem NewP.nil {n : Nat} {cs : List Value} {t : TypeId} {v : Value} {w w' : World} (h : NewP n cs t v w) (hc : Chg Nil w w') : NewP n cs t v w' := ⟨h.1, h.2.1, h.2.2.chg hc (fun h => h)⟩
def NewS (n m : Nat) (cs : List Value) (t : TypeId) (v : Value) (w : World) : Prop := ∃ q, v = .slice (some ⟨q, 0, none⟩) m m ∧ n ≤ q ∧ Box w q cs t
theorem NewS.keep {n m : Nat} {cs : List Value} {t : TypeId} {S : Nat → Prop} (hS : ∀ k, S k → k < n) {v : Value} {w w' : World} (h : NewS n m cs t v w) (hc : Chg S w w') : NewS n m cs t v w' := by
  obtain ⟨q, h1, h2, h3⟩ := h
  exact ⟨q, h1, h2, h3.chg hc (fun hs => by have := hS q hs; omega)⟩
/-- A list of records among the arguments. -/
structure Rl where
  ra : Option Addr
  rs : List Rec
  rc : Nat
def RlsAt (w : World) (xa : Option Addr) (xs : List Rl) : Prop := ∀ i (h : i < xs.length), ∃ b off, xa = some ⟨b, off, none⟩ ∧ w.cell? ⟨b, off + i, none⟩ = some (.slice xs[i].ra xs[i].rs.length xs[i].rc)
structure Rl.Ok (w : World) (p : Rl) : Prop where
  recs : RecsAt w p.ra p.rs
  rok : ∀ r ∈ p.rs, Rec.Ok r
end Go.Proofs.YtmaomebnigcgeaaGreatDoor
