/-
  The document's disk in memory; at, Used, Size.
-/
import Derived.Test.YthjdkhjdgmnliaaGreatDoorDkMore
set_option linter.unusedSimpArgs false
set_option linter.unusedVariables false
namespace Go.Proofs.YthjdkhjdgmnliaaGreatDoor
open Go.RowKit Go.Maps Go.Sort

structure Rf where
  x : Nm
  f : Fl
  v : Value
def Rf.cells (r : Rf) : List Value := [encStr r.x, r.v, .int .i64 (r.f.safe : Nat)]
theorem thr_len (l : List Rf) : (l.flatMap Rf.cells).length = l.length * 3 := by
  induction l with
  | nil => rfl
  | cons t l ih => rw [List.flatMap_cons, List.length_append, ih, List.length_cons]; simp only [Rf.cells, List.length_cons, List.length_nil]; omega
theorem thr_get (rs : List Rf) : ∀ (i : Nat) (hi : i < rs.length) (j : Nat) (u : Value), (rs[i].cells)[j]? = some u → (rs.flatMap Rf.cells)[i * 3 + j]? = some u := by
  induction rs with
  | nil => intro i hi; simp at hi
  | cons r rs ih =>
    intro i hi j u hj
    rw [List.flatMap_cons]
    cases i with
    | zero =>
      have hl : j < r.cells.length := (List.getElem?_eq_some_iff.1 hj).1
      rw [List.getElem?_append_left (by omega)]
      simpa using hj
    | succ i =>
      have hlen : r.cells.length = 3 := rfl
      rw [List.getElem?_append_right (by rw [hlen]; omega), hlen, show (i + 1) * 3 + j - 3 = i * 3 + j by omega]
      exact ih i (by simpa using hi) j u (by simpa using hj)
theorem refT : SliceT Tryz.prog 31 64 3 48 :=
  ⟨Tryz.underlying31, by
    have h : (Tryz.prog.info? 64).map (fun i => (i.zero, i.size, i.bytes)) = some (some (.agg #[.string ⟨#[]⟩, .slice none 0 0, .int .i64 0]), 3, 48) := by kernel_rfl
    obtain ⟨i, hi, hz, h1, h2⟩ := info_parts h
    exact ⟨i, _, hi, hz, rfl, h1, h2⟩⟩
/-- A slice of files that is the call's own. -/
def OwnF (w : World) (v : Value) (rs : List Rf) : Prop := w.ownsRow 0 64 3 v rs.length (rs.flatMap Rf.cells)
theorem OwnF.nil (w : World) : OwnF w (.slice none 0 0) [] := World.ownsRow_nil w 0 _ 3
theorem OwnF.chg {S : Nat → Prop} {w w' : World} {v : Value} {rs : List Rf} (h : OwnF w v rs) (hc : Chg S w w') (hn : ∀ k, v.ownBlock = some k → ¬ S k) : OwnF w' v rs := ownsRow_chg h hc hn
theorem OwnF.lt {w : World} {v : Value} {rs : List Rf} (h : OwnF w v rs) : ∀ k, v.ownBlock = some k → k < w.heap.size := ownsRow_lt h
theorem OwnF.val {w : World} {v : Value} {rs : List Rf} (h : OwnF w v rs) : ∃ a cap, v = .slice a rs.length cap ∧ rs.length ≤ cap ∧ (∀ x, a = some x → v.ownBlock = some x.block) ∧
    ∀ i (h : i < rs.length), ∃ g, a = some ⟨g, 0, none⟩ ∧ w.cell? ⟨g, i * 3, none⟩ = some (encStr rs[i].x) ∧ w.cell? ⟨g, i * 3 + 1, none⟩ = some rs[i].v ∧ w.cell? ⟨g, i * 3 + 2, none⟩ = some (.int .i64 (rs[i].f.safe : Nat)) := by
  rcases h.2 with ⟨rfl, hn⟩ | ⟨g, cap, cur, rfl, _, _, hle, _⟩
  · exact ⟨none, 0, by rw [hn], by omega, fun x hx => (by cases hx), fun i hi => absurd hi (by omega)⟩
  · have e1 : ∀ j, (⟨g, 0, none⟩ : Addr).add j = ⟨g, j, none⟩ := fun j => by unfold Addr.add; split <;> simp_all
    refine ⟨some ⟨g, 0, none⟩, cap, rfl, hle, fun x hx => (by cases hx; rfl), fun i hi => ⟨g, rfl, ?_, ?_, ?_⟩⟩
    · have := World.ownsRow.cells h (g := g) rfl (i * 3 + 0) _ (thr_get rs i hi 0 _ rfl)
      rwa [e1] at this
    · have := World.ownsRow.cells h (g := g) rfl (i * 3 + 1) _ (thr_get rs i hi 1 _ rfl)
      rwa [e1] at this
    · have := World.ownsRow.cells h (g := g) rfl (i * 3 + 2) _ (thr_get rs i hi 2 _ rfl)
      rwa [e1] at this

structure Rm (w : World) (q : Nat) (v : Value) (rs : List Rf) (room : Nat) (left : Int) : Prop where
  c : Box w q [v, .int .i64 (room : Nat), .int .i64 left] 33
  o : OwnF w v rs
  b : ∀ r ∈ rs, SlcRow w 5 1 r.v r.f.bytes.length (r.f.bytes.map bval)
def RHas (q : Nat) (v : Value) (rs : List Rf) (k : Nat) : Prop := k = q ∨ v.ownBlock = some k ∨ ∃ r ∈ rs, Value.room r.v = some k
theorem Rm.lt {w : World} {q : Nat} {v : Value} {rs : List Rf} {room : Nat} {left : Int} (h : Rm w q v rs room left) : ∀ k, RHas q v rs k → k < w.heap.size := by
  rintro k (rfl | hk | ⟨r, hr, hk⟩)
  · exact (Array.getElem?_eq_some_iff.1 h.c).1
  · exact h.o.lt k hk
  · exact (h.b r hr).lt k hk
theorem Rm.chg {S : Nat → Prop} {w w' : World} {q : Nat} {v : Value} {rs : List Rf} {room : Nat} {left : Int} (h : Rm w q v rs room left) (hc : Chg S w w') (hn : ∀ k, RHas q v rs k → ¬ S k) : Rm w' q v rs room left :=
  ⟨h.c.chg hc (hn _ (.inl rfl)), h.o.chg hc (fun k hk => hn _ (.inr (.inl hk))), fun r hr => (h.b r hr).chg hc (fun k hk => hn _ (.inr (.inr ⟨r, hr, hk⟩)))⟩

/-- In this world the document's disk lies at block q; its blocks are among T. -/
def RefAt (w : World) (q : Nat) (T : Nat → Prop) (d : Dk) : Prop :=
  ∃ v rs, Rm w q v rs d.room d.left ∧ d.fs = rs.map (fun r => (r.x, r.f)) ∧ (∀ k, RHas q v rs k → T k)
theorem RefAt.chg {S T : Nat → Prop} {w w' : World} {q : Nat} {d : Dk} (h : RefAt w q T d) (hc : Chg S w w') (hn : ∀ k, T k → ¬ S k) : RefAt w' q T d := by
  obtain ⟨v, rs, hm, he, hs⟩ := h
  exact ⟨v, rs, hm.chg hc (fun k hk => hn k (hs k hk)), he, hs⟩

/-- A name's place. -/
def plc (rs : List Rf) (x : Nm) : Int := match rs.findIdx? (fun r => r.x == x) with | some k => k | none => -1
theorem plc_hit {rs : List Rf} {x : Nm} {i : Nat} (hi : i < rs.length) (h : rs[i].x = x) (ha : ∀ j (hj : j < i), ¬ (rs[j]'(by omega)).x = x) : plc rs x = i := by
  unfold plc
  have : rs.findIdx? (fun r => r.x == x) = some i := by
    rw [List.findIdx?_eq_some_iff_getElem]
    refine ⟨hi, by simpa using h, fun j hj => by simpa using ha j hj⟩
  rw [this]
theorem plc_miss {rs : List Rf} {x : Nm} (h : ∀ j (hj : j < rs.length), ¬ rs[j].x = x) : plc rs x = -1 := by
  unfold plc
  have : rs.findIdx? (fun r => r.x == x) = none := by
    rw [List.findIdx?_eq_none_iff]
    intro r hr
    obtain ⟨j, hj, rfl⟩ := List.getElem_of_mem hr
    simpa using h j hj
  rw [this]

theorem plc_cases (rs : List Rf) (x : Nm) : (∃ k, ∃ hk : k < rs.length, plc rs x = (k : Int) ∧ rs[k].x = x ∧ (rs.map fun r => (r.x, r.f)).lookup x = some rs[k].f) ∨ (plc rs x = -1 ∧ (∀ r ∈ rs, ¬ r.x = x) ∧ (rs.map fun r => (r.x, r.f)).lookup x = none) := by
  induction rs with
  | nil => exact .inr ⟨rfl, by simp, rfl⟩
  | cons r rs ih =>
    by_cases h : r.x = x
    · refine .inl ⟨0, by simp, ?_, h, ?_⟩
      · unfold plc; rw [List.findIdx?_cons]; simp [h]
      · subst h; simp
    · have hb : (x == r.x) = false := beq_eq_false_iff_ne.2 (fun e => h e.symm)
      have hb2 : (r.x == x) = false := beq_eq_false_iff_ne.2 h
      have hl : ((r :: rs).map fun r => (r.x, r.f)).lookup x = (rs.map fun r => (r.x, r.f)).lookup x := by
        rw [List.map_cons, List.lookup_cons]; simp [hb]
      rcases ih with ⟨k, hk, h1, h2, h3⟩ | ⟨h1, h2, h3⟩
      · refine .inl ⟨k + 1, by simpa using hk, ?_, h2, by rw [hl]; exact h3⟩
        unfold plc at h1 ⊢
        rw [List.findIdx?_cons, hb2]
        cases he : rs.findIdx? (fun r => r.x == x) with
        | none => rw [he] at h1; simp at h1; try omega
        | some j => rw [he] at h1; simp at h1 ⊢; try omega
      · refine .inr ⟨?_, fun y hy => ?_, by rw [hl]; exact h3⟩
        · unfold plc at h1 ⊢
          rw [List.findIdx?_cons, hb2]
          cases he : rs.findIdx? (fun r => r.x == x) with
          | none => rfl
          | some j => rw [he] at h1; simp at h1; try omega
        · rcases List.mem_cons.1 hy with rfl | hy
          · exact h
          · exact h2 y hy
theorem meas_one {n i : Nat} (h : i < n) : n - (RowKit.intOf (Value.int .i64 ((i : Int) + 1))).toNat < n - (RowKit.intOf (Value.int .i64 (i : Int))).toNat := by
  show n - ((i : Int) + 1).toNat < n - (i : Int).toNat
  omega

set_option maxHeartbeats 4000000 in
theorem at_any {w : World} {q : Nat} {v : Value} {rs : List Rf} {room : Nat} {left : Int} (h : Rm w q v rs room left) (hn : rs.length ≤ 200) (t : Nm) :
    Calls Tryz.prog 29 #[.pointer (some ⟨q, 0, none⟩), .string ⟨t.toArray⟩] w fun e w' => e = .returned (.int .i64 (plc rs t)) ∧ Chg Nil w w' := by
  obtain ⟨a, cap, rfl, hcap, _, hcell⟩ := h.o.val
  have c0 := h.c.cell (j := 0) rfl
  have HCELL := Lib.hid hcell
  have HB := Lib.hid h.b
  clear hcell h
  go_enter Tryz.func29, Tryz.ntmps29
  go_wp2_with fail
  clear c0
  go_loopw [12] (fun ii wr => ∃ (wq : World) (i : Nat), wq = wr ∧ i ≤ rs.length ∧ ii = .int .i64 i ∧ Hid (∀ j (hj : j < i) (hl : j < rs.length), ¬ rs[j].x = t) ∧ Chg Nil w wr) (fun ii _ => rs.length - (RowKit.intOf ii).toNat)
  case atStart => exact ⟨_, 0, rfl, by omega, rfl, fun j hj => absurd hj (by omega), Chg.refl _ _⟩
  case round =>
    obtain ⟨wr, i, rfl, hi, rfl, hall, hc⟩ := hrel
    have HC := Lib.hid hc
    clear hc
    by_cases hil : i < rs.length
    · have hii : (i : Int) < (rs.length : Int) := by omega
      have hi64 : wrap64 ((i : Int) + 1) = (i : Int) + 1 := by unfold wrap64; omega
      obtain ⟨g, rfl, z0, z1, z2⟩ := HCELL.out i hil
      obtain ⟨a1, c1, hv, _, _⟩ := (HB.out _ (List.getElem_mem hil)).form
      rw [hv] at z1
      have z0 := HC.out.cell z0 (fun h => h)
      have z1 := HC.out.cell z1 (fun h => h)
      have z2 := HC.out.cell z2 (fun h => h)
      have HHIT := Lib.hid (fun (hx : rs[i].x = t) => plc_hit hil hx (fun j hj => hall j hj (by omega)))
      have HNEXT : Hid (¬ rs[i].x = t → ∀ j (hj : j < i + 1) (hl : j < rs.length), ¬ rs[j].x = t) := fun hx j hj hl => by
        by_cases e : j = i
        · subst e; exact hx
        · exact hall j (by omega) hl
      generalize rs[i].f.bytes.length = n1 at *
      generalize rs[i].f.safe = s1 at *
      generalize rs[i].x = x at *
      simp only [encStr] at z0
      clear hv hall
      have hbx := Box.new wr [.string ⟨x.toArray⟩, .slice a1 n1 c1, .int .i64 (s1 : Nat)] 64
      have HC2 := Lib.hid (HC.out.trans ((Chg.refl Nil wr).alloc (.cells #[.string ⟨x.toArray⟩, .slice a1 n1 c1, .int .i64 (s1 : Nat)] 64)) (fun _ h => h.elim))
      go_upto_region 4 with fail
      clear z0 z1 z2
      have hbx : Box (wr.alloc (.cells #[.string ⟨x.toArray⟩, .slice a1 n1 c1, .int .i64 (s1 : Nat)] 64)) wr.heap.size [.string ⟨x.toArray⟩, .slice a1 n1 c1, .int .i64 (s1 : Nat)] 64 := hbx
      generalize wr.alloc (.cells #[.string ⟨x.toArray⟩, .slice a1 n1 c1, .int .i64 (s1 : Nat)] 64) = w2 at *
      generalize wr.heap.size = g2 at *
      have y0 := hbx.cell (j := 0) rfl
      clear hbx
      by_cases hxt : x = t
      · have hb1 : (x == t) = true := by simp [hxt]
        have HH := Lib.hid (HHIT.out hxt)
        clear hxt
        go_wp2_with fail
        go_ret
        rw [HH.out]
        exact ⟨rfl, HC2.out⟩
      · have hb1 : (x == t) = false := beq_eq_false_iff_ne.2 hxt
        have HH : Hid (Hid (∀ j (hj : j < i + 1) (hl : j < rs.length), ¬ rs[j].x = t)) := HNEXT.out hxt
        clear hxt HNEXT HHIT
        go_wp2_with fail
        go_roundw
        case rel => exact ⟨_, i + 1, rfl, by omega, by go_num, HH.out, HC2.out⟩
        case measure => exact meas_one hil
    · have hii : ¬ (i : Int) < (rs.length : Int) := by omega
      obtain rfl : i = rs.length := by omega
      have HM := Lib.hid (plc_miss (rs := rs) (x := t) (fun j hj => hall j hj hj))
      clear hall
      go_wp2_with fail
      go_ret
      rw [HM.out]
      exact ⟨rfl, HC.out⟩

/-- How many bytes these files have. -/
def usedR (rs : List Rf) : Nat := (rs.map fun r => r.f.bytes.length).sum
theorem usedR_take (rs : List Rf) {i : Nat} (hi : i < rs.length) : usedR (rs.take (i + 1)) = usedR (rs.take i) + rs[i].f.bytes.length := by
  unfold usedR
  rw [List.take_succ_eq_append_getElem hi, List.map_append, List.sum_append]
  simp
theorem usedR_le (rs : List Rf) (i : Nat) : usedR (rs.take i) ≤ usedR rs := sum_sub (List.Sublist.map _ (List.take_sublist _ _))
theorem usedR_eq {d : Dk} {rs : List Rf} (h : d.fs = rs.map (fun r => (r.x, r.f))) : d.used = usedR rs := by
  unfold Dk.used usedR
  rw [h, List.map_map]
  rfl

set_option maxHeartbeats 4000000 in
theorem rused_any {w : World} {q : Nat} {v : Value} {rs : List Rf} {room : Nat} {left : Int} (h : Rm w q v rs room left) (hn : rs.length ≤ 200) (hu : usedR rs ≤ 1048576) :
    Calls Tryz.prog 17 #[.pointer (some ⟨q, 0, none⟩)] w fun e w' => e = .returned (.int .i64 (usedR rs : Nat)) ∧ Chg Nil w w' := by
  obtain ⟨a, cap, rfl, hcap, _, hcell⟩ := h.o.val
  have c0 := h.c.cell (j := 0) rfl
  have HCELL := Lib.hid hcell
  have HB := Lib.hid h.b
  have HU := Lib.hid hu
  clear hcell h hu
  go_enter Tryz.func17, Tryz.ntmps17
  go_wp2_with fail
  clear c0
  go_loopw [11, 3] (fun ii nn wr => ∃ (wq : World) (i : Nat), wq = wr ∧ i ≤ rs.length ∧ ii = .int .i64 i ∧ nn = .int .i64 (usedR (rs.take i) : Nat) ∧ Chg Nil w wr) (fun ii _ _ => rs.length - (RowKit.intOf ii).toNat)
  case atStart => exact ⟨_, 0, rfl, by omega, rfl, rfl, Chg.refl _ _⟩
  case round =>
    obtain ⟨wr, i, rfl, hi, rfl, rfl, hc⟩ := hrel
    have HC := Lib.hid hc
    clear hc
    by_cases hil : i < rs.length
    · have hii : (i : Int) < (rs.length : Int) := by omega
      have hi64 : wrap64 ((i : Int) + 1) = (i : Int) + 1 := by unfold wrap64; omega
      obtain ⟨g, rfl, z0, z1, z2⟩ := HCELL.out i hil
      obtain ⟨a1, c1, hv, _, _⟩ := (HB.out _ (List.getElem_mem hil)).form
      rw [hv] at z1
      have z0 := HC.out.cell z0 (fun h => h)
      have z1 := HC.out.cell z1 (fun h => h)
      have z2 := HC.out.cell z2 (fun h => h)
      have hut := usedR_take rs hil
      have hul := usedR_le rs (i + 1)
      have hub := HU.out
      have HNX := Lib.hid hut
      obtain ⟨u, hu⟩ : ∃ u, usedR (rs.take i) = u := ⟨_, rfl⟩
      rw [hu] at hut HNX
      rw [hu]
      have hw64 : wrap64 ((u : Int) + (rs[i].f.bytes.length : Int)) = (u : Int) + (rs[i].f.bytes.length : Int) := by unfold wrap64; omega
      generalize rs[i].f.bytes.length = n1 at *
      generalize rs[i].f.safe = s1 at *
      generalize rs[i].x = x at *
      simp only [encStr] at z0
      clear hv hu hut hul hub
      have hbx := Box.new wr [.string ⟨x.toArray⟩, .slice a1 n1 c1, .int .i64 (s1 : Nat)] 64
      have HC2 := Lib.hid (HC.out.trans ((Chg.refl Nil wr).alloc (.cells #[.string ⟨x.toArray⟩, .slice a1 n1 c1, .int .i64 (s1 : Nat)] 64)) (fun _ h => h.elim))
      go_upto_region 5 with fail
      clear z0 z1 z2
      have hbx : Box (wr.alloc (.cells #[.string ⟨x.toArray⟩, .slice a1 n1 c1, .int .i64 (s1 : Nat)] 64)) wr.heap.size [.string ⟨x.toArray⟩, .slice a1 n1 c1, .int .i64 (s1 : Nat)] 64 := hbx
      generalize wr.alloc (.cells #[.string ⟨x.toArray⟩, .slice a1 n1 c1, .int .i64 (s1 : Nat)] 64) = w2 at *
      generalize wr.heap.size = g2 at *
      have y1 := hbx.cell (j := 1) rfl
      clear hbx
      go_wp2_with fail
      go_roundw
      case rel => exact ⟨_, i + 1, rfl, by omega, by go_num, by rw [HNX.out]; go_num, HC2.out⟩
      case measure => exact meas_one hil
    · have hii : ¬ (i : Int) < (rs.length : Int) := by omega
      obtain rfl : i = rs.length := by omega
      rw [List.take_length]
      go_wp2_with fail
      go_ret
      exact ⟨rfl, HC.out⟩

set_option maxHeartbeats 4000000 in
theorem rsize_any {w : World} {q : Nat} {T : Nat → Prop} {d : Dk} (h : RefAt w q T d) (hok : d.Ok) (t : Nm) :
    Calls Tryz.prog 19 #[.pointer (some ⟨q, 0, none⟩), .string ⟨t.toArray⟩] w fun e w' => e = .returned (.int .i64 (d.size t)) ∧ Chg Nil w w' := by
  obtain ⟨v, rs, hm, hfs, _⟩ := h
  have hn : rs.length ≤ 200 := by have := hok.few; rw [hfs, List.length_map] at this; exact this
  have HAT := Lib.hid (at_any hm hn t)
  have hsz : d.size t = match (rs.map fun r => (r.x, r.f)).lookup t with | some f => (f.bytes.length : Int) | none => -1 := by
    unfold Dk.size Dk.find
    rw [hfs]
    cases (rs.map fun r => (r.x, r.f)).lookup t <;> rfl
  rw [hsz]
  clear hsz
  have HM := Lib.hid hm
  rcases plc_cases rs t with ⟨k, hk, h1, h2, h3⟩ | ⟨h1, h2, h3⟩
  · rw [h3]
    rw [h1] at HAT
    clear h1 h2 h3 hm hfs hok
    go_enter Tryz.func19, Tryz.ntmps19
    go_wp2_with (go_at_call 29; refine HAT.out.mono ?_)
    rintro e w1 ⟨rfl, hc1⟩
    have HM1 := Lib.hid (HM.out.chg hc1 (fun _ _ h => h))
    have HC1 := Lib.hid hc1
    obtain ⟨a, cap, rfl, hcap, _, hcell⟩ := HM1.out.o.val
    have c0 := HM1.out.c.cell (j := 0) rfl
    obtain ⟨g, rfl, z0, z1, z2⟩ := hcell k hk
    obtain ⟨a1, c1, hv, _, _⟩ := (HM1.out.b _ (List.getElem_mem hk)).form
    rw [hv] at z1
    have hk0 : (0 : Int) ≤ (k : Int) := by omega
    have hkn : (k : Int) < (rs.length : Int) := by omega
    clear hcell hv hc1 HAT z0 z2
    go_wp2_with fail
    go_ret
    exact ⟨rfl, HC1.out⟩
  · rw [h3]
    rw [h1] at HAT
    clear h1 h2 h3 hm hfs hok
    go_enter Tryz.func19, Tryz.ntmps19
    go_wp2_with (go_at_call 29; refine HAT.out.mono ?_)
    rintro e w1 ⟨rfl, hc1⟩
    have HC1 := Lib.hid hc1
    clear hc1
    go_wp2_with fail
    go_ret
    exact ⟨rfl, HC1.out⟩
end Go.Proofs.YthjdkhjdgmnliaaGreatDoor
