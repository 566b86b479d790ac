/-
  A disk of one file, and of two, plain: what becomes of a segment there. (Of the segments' seat.)
-/
import Derived.Test.YtdjmifaidgbbaaaGreatDoorLc30
import Derived.Test.YtdjmifaidgbbaaaGreatDoorLc25
set_option linter.unusedSimpArgs false
set_option linter.unusedVariables false
namespace Go.Proofs.YtdjmifaidgbbaaaGreatDoor
open Go.RowKit Go.Lib

structure One (d : Dk) (room : Nat) (nm : Nm) (bs : List UInt8) : Prop where
  fs : ∃ sf, d.fs = [(nm, ⟨bs, sf⟩)]
  room : d.room = room
  left : d.left = -1
structure Two (d : Dk) (room : Nat) (nm : Nm) (bs : List UInt8) (nm2 : Nm) (cs : List UInt8) : Prop where
  fs : ∃ sf sf2, d.fs = [(nm, ⟨bs, sf⟩), (nm2, ⟨cs, sf2⟩)]
  ne : nm2 ≠ nm
  room : d.room = room
  left : d.left = -1
theorem step_same {d : Dk} (h : d.left = -1) : d.step = d := by
  unfold Dk.step stepL
  rw [h]
  cases d
  simp only at h
  subst h
  rfl
theorem does_true {d : Dk} (h : d.left = -1) : d.does = true := by unfold Dk.does didB; rw [h]; rfl
theorem One.find {d : Dk} {room : Nat} {nm : Nm} {bs : List UInt8} (h : One d room nm bs) : ∃ sf, d.find nm = some ⟨bs, sf⟩ := by
  obtain ⟨sf, hf⟩ := h.fs
  exact ⟨sf, by unfold Dk.find; rw [hf]; simp⟩
theorem One.size {d : Dk} {room : Nat} {nm : Nm} {bs : List UInt8} (h : One d room nm bs) : d.size nm = bs.length := by
  obtain ⟨sf, hf⟩ := h.find
  unfold Dk.size
  rw [hf]
theorem One.size_no {d : Dk} {room : Nat} {nm x : Nm} {bs : List UInt8} (h : One d room nm bs) (hx : x ≠ nm) : d.find x = none := by
  obtain ⟨sf, hf⟩ := h.fs
  have hb : (x == nm) = false := beq_eq_false_iff_ne.2 hx
  unfold Dk.find
  rw [hf]
  simp [List.lookup, hb]
theorem One.used {d : Dk} {room : Nat} {nm : Nm} {bs : List UInt8} (h : One d room nm bs) : d.used = bs.length := by
  obtain ⟨sf, hf⟩ := h.fs
  unfold Dk.used
  rw [hf]
  simp
theorem One.add {d : Dk} {room : Nat} {nm : Nm} {bs : List UInt8} (h : One d room nm bs) (b : List UInt8) :
    (room < bs.length + b.length → d.add nm b = (12, d)) ∧ (¬ room < bs.length + b.length → ∃ d', d.add nm b = (0, d') ∧ One d' room nm (bs ++ b)) := by
  obtain ⟨sf, hf⟩ := h.find
  obtain ⟨sf2, hfs⟩ := h.fs
  unfold Dk.add Dk.at
  rw [if_neg (by rw [does_true h.left]; simp), hf, step_same h.left]
  simp only [h.room, h.used]
  refine ⟨fun hr => by rw [if_pos hr]; rfl, fun hr => ?_⟩
  rw [if_neg hr]
  refine ⟨_, rfl, ⟨sf, ?_⟩, h.room, h.left⟩
  show (d.turn nm ⟨bs ++ b, sf⟩).fs = _
  unfold Dk.turn
  rw [hfs]
  simp
theorem One.sync {d : Dk} {room : Nat} {nm : Nm} {bs : List UInt8} (h : One d room nm bs) : ∃ d', d.sync nm = (0, d') ∧ One d' room nm bs := by
  obtain ⟨sf, hf⟩ := h.find
  obtain ⟨sf2, hfs⟩ := h.fs
  unfold Dk.sync Dk.at
  rw [if_neg (by rw [does_true h.left]; simp), hf, step_same h.left]
  refine ⟨_, rfl, ⟨bs.length, ?_⟩, h.room, h.left⟩
  show (d.turn nm ⟨bs, bs.length⟩).fs = _
  unfold Dk.turn
  rw [hfs]
  simp
theorem One.remove {d : Dk} {room : Nat} {nm : Nm} {bs : List UInt8} (h : One d room nm bs) : ∃ d', d.remove nm = (0, d') ∧ d'.used = 0 := by
  obtain ⟨sf, hf⟩ := h.find
  obtain ⟨sf2, hfs⟩ := h.fs
  unfold Dk.remove Dk.at
  rw [if_neg (by rw [does_true h.left]; simp), hf, step_same h.left]
  refine ⟨_, rfl, ?_⟩
  show (d.del nm).used = 0
  unfold Dk.used Dk.del
  rw [hfs]
  simp
theorem One.make {d : Dk} {room : Nat} {nm nm2 : Nm} {bs : List UInt8} (h : One d room nm bs) (hn : nm2 ≠ nm) (hk : dkName nm2 = true) : ∃ d', d.make nm2 = (0, d') ∧ Two d' room nm bs nm2 [] := by
  obtain ⟨sf2, hfs⟩ := h.fs
  unfold Dk.make
  rw [if_neg (by rw [does_true h.left]; simp), if_neg (by rw [hk]; simp), h.size_no hn, step_same h.left, if_neg (by simp), if_neg (by rw [hfs]; simp)]
  refine ⟨_, rfl, ⟨sf2, 0, ?_⟩, hn, h.room, h.left⟩
  unfold Dk.put
  rw [hfs]
  simp [Ne.symm hn]
theorem Two.find {d : Dk} {room : Nat} {nm nm2 : Nm} {bs cs : List UInt8} (h : Two d room nm bs nm2 cs) : ∃ sf, d.find nm2 = some ⟨cs, sf⟩ := by
  obtain ⟨sf, sf2, hf⟩ := h.fs
  refine ⟨sf2, ?_⟩
  unfold Dk.find
  rw [hf]
  have hb : (nm2 == nm) = false := beq_eq_false_iff_ne.2 h.ne
  simp [List.lookup, hb]
theorem Two.used {d : Dk} {room : Nat} {nm nm2 : Nm} {bs cs : List UInt8} (h : Two d room nm bs nm2 cs) : d.used = bs.length + cs.length := by
  obtain ⟨sf, sf2, hf⟩ := h.fs
  unfold Dk.used
  rw [hf]
  simp
theorem Two.add {d : Dk} {room : Nat} {nm nm2 : Nm} {bs cs : List UInt8} (h : Two d room nm bs nm2 cs) (b : List UInt8) :
    (room < bs.length + cs.length + b.length → d.add nm2 b = (12, d)) ∧ (¬ room < bs.length + cs.length + b.length → ∃ d', d.add nm2 b = (0, d') ∧ Two d' room nm bs nm2 (cs ++ b)) := by
  obtain ⟨sf, hf⟩ := h.find
  obtain ⟨sf1, sf2, hfs⟩ := h.fs
  have hne := h.ne
  unfold Dk.add Dk.at
  rw [if_neg (by rw [does_true h.left]; simp), hf, step_same h.left]
  simp only [h.room, h.used]
  refine ⟨fun hr => by rw [if_pos hr]; rfl, fun hr => ?_⟩
  rw [if_neg hr]
  refine ⟨_, rfl, ⟨sf1, sf, ?_⟩, h.ne, h.room, h.left⟩
  show (d.turn nm2 ⟨cs ++ b, sf⟩).fs = _
  unfold Dk.turn
  rw [hfs]
  simp [Ne.symm hne]
theorem Two.sync {d : Dk} {room : Nat} {nm nm2 : Nm} {bs cs : List UInt8} (h : Two d room nm bs nm2 cs) : ∃ d', d.sync nm2 = (0, d') ∧ Two d' room nm bs nm2 cs := by
  obtain ⟨sf, hf⟩ := h.find
  obtain ⟨sf1, sf2, hfs⟩ := h.fs
  have hne := h.ne
  unfold Dk.sync Dk.at
  rw [if_neg (by rw [does_true h.left]; simp), hf, step_same h.left]
  refine ⟨_, rfl, ⟨sf1, cs.length, ?_⟩, h.ne, h.room, h.left⟩
  show (d.turn nm2 ⟨cs, cs.length⟩).fs = _
  unfold Dk.turn
  rw [hfs]
  simp [Ne.symm hne]
theorem Two.remove {d : Dk} {room : Nat} {nm nm2 : Nm} {bs cs : List UInt8} (h : Two d room nm bs nm2 cs) : ∃ d', d.remove nm2 = (0, d') ∧ One d' room nm bs := by
  obtain ⟨sf, hf⟩ := h.find
  obtain ⟨sf1, sf2, hfs⟩ := h.fs
  have hne := h.ne
  unfold Dk.remove Dk.at
  rw [if_neg (by rw [does_true h.left]; simp), hf, step_same h.left]
  refine ⟨_, rfl, ⟨sf1, ?_⟩, h.room, h.left⟩
  show (d.del nm2).fs = _
  unfold Dk.del
  rw [hfs]
  simp [Ne.symm hne]
theorem Two.rename {d : Dk} {room : Nat} {nm nm2 : Nm} {bs cs : List UInt8} (h : Two d room nm bs nm2 cs) (hk : dkName nm = true) : ∃ d', d.rename nm2 nm = (0, d') ∧ One d' room nm cs := by
  obtain ⟨sf, hf⟩ := h.find
  obtain ⟨sf1, sf2, hfs⟩ := h.fs
  have hne := h.ne
  unfold Dk.rename Dk.at
  rw [if_neg (by rw [does_true h.left]; simp), hf, step_same h.left]
  simp only [hk]
  refine ⟨_, rfl, ⟨sf, ?_⟩, h.room, h.left⟩
  show ((d.del nm2).put nm ⟨cs, sf⟩).fs = _
  unfold Dk.put Dk.del
  rw [hfs]
  simp [Ne.symm hne]
/-- A batch that may be, at the end. -/
theorem addSg_ok {d : Dk} {g : Sg} {b : Bt} (hb : b.Ok) (hn : g.next ≤ b.base) : addSg d g b.base b.en b.rs = if (d.add g.name b.bytes).1 = 0 then (0, (d.add g.name b.bytes).2, g.noted b.base b.en b.rs b.bytes.length) else ((d.add g.name b.bytes).1, (d.add g.name b.bytes).2, g) := by
  unfold addSg
  rw [if_neg (by simpa using hb.err), if_neg (by omega)]
  rfl
theorem rew2_law {room : Nat} {nm nm2 : Nm} {bs : List UInt8} {g : Sg} : ∀ (l done : List Bt) (d : Dk) (gt : Sg), gt.name = nm2 → Two d room nm bs nm2 (batBs done) → SgOf gt done → (∀ b ∈ l, b.Ok) → rising (lastEnd gt.base done) l →
    (bs.length + (batBs done).length + (batBs l).length ≤ room → ∃ d' gt', rew2 d g gt l = rew3 d' g gt' ∧ Two d' room nm bs nm2 (batBs (done ++ l)) ∧ SgOf gt' (done ++ l) ∧ gt'.name = nm2) ∧
    (¬ bs.length + (batBs done).length + (batBs l).length ≤ room → bs.length + (batBs done).length ≤ room → ∃ d', rew2 d g gt l = (12, d', g) ∧ One d' room nm bs)
  | [], done, d, gt, hnm, hd, hg, _, _ => by
    refine ⟨fun _ => ⟨d, gt, rfl, by rw [List.append_nil]; exact hd, by rw [List.append_nil]; exact hg, hnm⟩, fun h h2 => ?_⟩
    exact absurd (by simpa [batBs] using h2) h
  | b :: l, done, d, gt, hnm, hd, hg, hok, hr => by
    have hb := hok b (List.mem_cons_self ..)
    have hn : gt.next ≤ b.base := by rw [hg.next]; exact hr.1
    have ha := hd.add b.bytes
    have e1 : rew2 d g gt (b :: l) = if (addSg d gt b.base b.en b.rs).1 = 0 then rew2 (addSg d gt b.base b.en b.rs).2.1 g (addSg d gt b.base b.en b.rs).2.2 l else ((addSg d gt b.base b.en b.rs).1, ((addSg d gt b.base b.en b.rs).2.1.remove gt.name).2, g) := rfl
    rw [e1, addSg_ok hb hn, hnm]
    by_cases hro : room < bs.length + (batBs done).length + b.bytes.length
    · rw [ha.1 hro, if_neg (by simp)]
      obtain ⟨d', h1, h2⟩ := hd.remove
      refine ⟨fun h => ?_, fun _ _ => ⟨d', ?_, h2⟩⟩
      · rw [batBs_cons, List.length_append] at h; omega
      · rw [if_neg (by simp)]
        show (12, (d.remove nm2).2, g) = _
        rw [h1]
    · obtain ⟨d', h1, h2⟩ := ha.2 hro
      rw [h1, if_pos rfl, if_pos rfl]
      have h3 := hg.noted hb hn
      have h4 : Two d' room nm bs nm2 (batBs (done ++ [b])) := by rw [batBs_snoc]; exact h2
      have h5 := rew2_law (room := room) (nm := nm) (nm2 := nm2) (bs := bs) (g := g) l (done ++ [b]) d' (gt.noted b.base b.en b.rs b.bytes.length) hnm h4 h3 (fun c hc => hok c (List.mem_cons_of_mem _ hc)) (by rw [lastEnd_snoc]; exact hr.2)
      have e2 : done ++ b :: l = done ++ [b] ++ l := by simp
      have e3 : (batBs (done ++ [b])).length = (batBs done).length + b.bytes.length := by rw [batBs_snoc, List.length_append]
      have e4 : (batBs (b :: l)).length = b.bytes.length + (batBs l).length := by rw [batBs_cons, List.length_append]
      rw [e2]
      exact ⟨fun h => h5.1 (by omega), fun h _ => h5.2 (by omega) (by omega)⟩
theorem rewL_law {room : Nat} {nm nm2 : Nm} {d : Dk} {g : Sg} {l0 l : List Bt} (h : One d room nm (batBs l0)) (hfit : (batBs l0).length ≤ room) (hg : SgOf g l0) (hnm : g.name = nm) (hne : nm2 ≠ nm) (h1 : dkName nm = true) (h2 : dkName nm2 = true) (hok : ∀ b ∈ l, b.Ok) (hr : rising g.base l) :
    ((batBs l0).length + (batBs l).length ≤ room → ∃ d' g', rewL d g nm2 l = (0, d', g') ∧ One d' room nm (batBs l) ∧ SgOf g' l ∧ g'.name = nm ∧ g'.base = g.base) ∧
    (¬ (batBs l0).length + (batBs l).length ≤ room → ∃ d', rewL d g nm2 l = (12, d', g) ∧ One d' room nm (batBs l0)) := by
  have e0 : rew0 d nm2 = (0, d) := by
    unfold rew0 Dk.size
    rw [h.size_no hne]
    rfl
  obtain ⟨d1, hm, ht⟩ := h.make hne h2
  have h3 := rew2_law (room := room) (nm := nm) (nm2 := nm2) (bs := batBs l0) (g := g) l [] d1 ⟨nm2, g.base, [], 0⟩ rfl ht ⟨rfl, rfl, fun b hb => (by cases hb), trivial⟩ hok hr
  have e1 : rewL d g nm2 l = rew2 d1 g ⟨nm2, g.base, [], 0⟩ l := by
    unfold rewL rew1
    rw [e0, if_pos rfl, hm, if_pos rfl]
  rw [e1]
  have e2 : (batBs ([] : List Bt)).length = 0 := rfl
  refine ⟨fun hf => ?_, fun hf => h3.2 (by omega) (by omega)⟩
  obtain ⟨d2, gt, e3, h4, h5, h6⟩ := h3.1 (by omega)
  rw [e3]
  obtain ⟨d3, hs, h7⟩ := h4.sync
  obtain ⟨d4, hn, h8⟩ := h7.rename h1
  unfold rew3 rew4
  rw [h6, hs, if_pos rfl, hnm, hn, if_pos rfl]
  exact ⟨d4, _, rfl, h8, ⟨h5.pls, h5.size, h5.ok, hr⟩, by first | exact hnm | rfl, rfl⟩
/-- A segment's name, and that of the file beside it, may be. -/
theorem digits_ok : ∀ n : Nat, (decDigits n).all (cutDisk.contains ·) = true := by
  intro n
  induction n using Nat.strongRecOn with
  | ind n ih =>
    have key : ∀ u, u < 10 → cutDisk.contains (UInt8.ofNat (48 + u)) = true := by decide
    by_cases h : n < 10
    · rw [dec_one h]
      simp only [List.all_cons, List.all_nil, Bool.and_true]
      exact key n h
    · rw [dec_step h, List.all_append, ih (n / 10) (by omega)]
      simp only [List.all_cons, List.all_nil, Bool.and_true, Bool.true_and]
      exact key (n % 10) (by omega)
theorem seg_ok (n : Nat) (hn : n ≤ 1099511627776) (c : UInt8) (hc : cutDisk.contains c = true) : dkName (segName [c] n) = true ∧ dkName (segName [c] n ++ dotnew) = true := by
  have h1 := dec_len 12 n (by omega)
  have h2 := digits_ok n
  have hz : (zeros n).all (cutDisk.contains ·) = true := by
    unfold zeros
    rw [List.all_eq_true]
    intro x hx
    rw [(List.mem_replicate.1 hx).2]
    decide
  have hd : dotlog.all (cutDisk.contains ·) = true := by decide
  have hw : dotnew.all (cutDisk.contains ·) = true := by decide
  have hs : ([47] : List UInt8).all (cutDisk.contains ·) = true := by decide
  have hm : c ∈ cutDisk := by simpa using hc
  have ha : (segName [c] n).all (cutDisk.contains ·) = true := by
    unfold segName pad
    rw [List.all_append, List.all_append, List.all_append, List.all_append, hz, h2, hd, hs]
    simp [hm]
  have hl : (segName [c] n).length ≤ 26 := by
    unfold segName pad zeros dotlog
    simp only [List.length_append, List.length_replicate, List.length_cons, List.length_nil]
    omega
  have hne : segName [c] n ≠ [] := by unfold segName; simp
  unfold dkName nameOk
  refine ⟨?_, ?_⟩
  · rw [ha]
    simp [hne]
    omega
  · rw [List.all_append, ha, hw]
    simp [hne, dotnew]
    omega
theorem new_ne (x : Nm) : x ++ dotnew ≠ x := by
  intro e
  have := congrArg List.length e
  rw [List.length_append] at this
  have h2 : dotnew.length = 4 := rfl
  omega
end Go.Proofs.YtdjmifaidgbbaaaGreatDoor

/-
  A segment beside what is kept; a new disk. (Of the segments' seat; alike in SqW, SpL: for laws that need neither.)
-/
set_option linter.unusedSimpArgs false
set_option linter.unusedVariables false
namespace Go.Proofs.YtdjmifaidgbbaaaGreatDoor
open Go.RowKit Go.Maps

theorem SgS.kept {B : Nat → Prop} {w w' : World} {p s : Nat} {S : Nat → Prop} {v : Value} {d : Dk} {g : Sg} (h : SgS B w p s S v d g) (hc : Chg B w w') : SgS B w' p s S v d g := by
  have hz := hc.size
  exact ⟨fun k hk => Nat.lt_of_lt_of_le (h.lo k hk) hz, h.a.chg hc (fun k hk hs => (h.sl k hk).1 hs), h.m.chg hc (fun k hk hb => h.ml k hk hb), h.ap, fun k hk => ⟨(h.sl k hk).1, Nat.lt_of_lt_of_le (h.sl k hk).2 hz⟩, h.ml⟩
theorem DsS.start {w w1 : World} {p mb r : Nat} (hr : r ≤ 1048576) (hp : w.heap.size ≤ p) (hm : w.heap.size ≤ mb) (hd : Dm w1 p mb [] (fun _ => undef) (fun _ => ⟨[], 0⟩) r (-1)) (hc1 : Chg Nil w w1) :
    DsS (fun k => k < w.heap.size) w1 p (fun k => w.heap.size ≤ k ∧ k < w1.heap.size) (Dk.fresh r) := by
  have hz := hc1.size
  refine ⟨fun k hk => by omega, ?_, fun k hk => ⟨by omega, hk.2⟩⟩
  refine ⟨mb, [], _, _, hd, rfl, fun k hk => ⟨?_, hd.lt k hk⟩, ⟨by simp [Dk.fresh, Dk.names], by simp [Dk.fresh], by simp [Dk.fresh, Dk.used], hr, by simp [Dk.fresh], by simp [Dk.fresh], by simp [Dk.fresh, Dk.names]⟩⟩
  rcases hk with rfl | rfl | ⟨q, hq, _⟩
  · exact hp
  · exact hm
  · simp at hq
theorem fresh_make {r : Nat} {nm : Nm} (hk : dkName nm = true) : ∃ d', (Dk.fresh r).make nm = (0, d') ∧ One d' r nm [] := by
  unfold Dk.make
  rw [if_neg (by simp [Dk.does, didB, Dk.fresh]), if_neg (by rw [hk]; simp)]
  refine ⟨_, rfl, ⟨0, rfl⟩, rfl, rfl⟩
end Go.Proofs.YtdjmifaidgbbaaaGreatDoor

/-
  A log in memory: its struct, its row of segments, each segment apart. (Of the logs' seat.)
-/
set_option linter.unusedSimpArgs false
set_option linter.unusedVariables false
namespace Go.Proofs.YtdjmifaidgbbaaaGreatDoor
open Go.RowKit Go.Maps

/-- A log, plain. -/
structure Lg where
  dir : List UInt8
  most : Int
  segs : List Sg
  start : Int
  safe : Int
  down : Bool
/-- A row of pointers to segments. -/
def OwnT (w : World) (v : Value) (l : List Nat) : Prop := w.ownsRow 0 104 1 v l.length (l.map fun s => Value.pointer (some ⟨s, 0, none⟩))
theorem OwnT.form {w : World} {v : Value} {l : List Nat} (h : OwnT w v l) : v = .slice (vA v) l.length (vC v) := by
  rcases h.2 with ⟨rfl, hn⟩ | ⟨g, cap, cur, rfl, _, _, hle, _⟩
  · rw [hn]; rfl
  · rfl
theorem OwnT.lt {w : World} {v : Value} {l : List Nat} (h : OwnT w v l) : ∀ k, v.ownBlock = some k → k < w.heap.size := ownsRow_lt h
theorem OwnT.val {w : World} {v : Value} {l : List Nat} (h : OwnT w v l) : ∃ a cap, v = .slice a l.length cap ∧ l.length ≤ cap ∧ ∀ i (h : i < l.length), ∃ g, a = some ⟨g, 0, none⟩ ∧ w.cell? ⟨g, i, none⟩ = some (.pointer (some ⟨l[i], 0, none⟩)) := by
  rcases h.2 with ⟨rfl, hn⟩ | ⟨g, cap, cur, rfl, _, _, hle, _⟩
  · exact ⟨none, 0, by rw [hn], by omega, fun i hi => absurd hi (by omega)⟩
  · have e1 : ∀ j, (⟨g, 0, none⟩ : Addr).add j = ⟨g, j, none⟩ := fun j => by unfold Addr.add; split <;> simp_all
    refine ⟨some ⟨g, 0, none⟩, cap, rfl, hle, fun i hi => ⟨g, rfl, ?_⟩⟩
    have := World.ownsRow.cells h (g := g) rfl i (.pointer (some ⟨l[i], 0, none⟩)) (by rw [List.getElem?_map, List.getElem?_eq_getElem hi]; rfl)
    rwa [e1] at this
theorem segT : SliceT Tryz.prog 97 104 1 8 :=
  ⟨Tryz.underlying97, by
    have h : (Tryz.prog.info? 104).map (fun i => (i.zero, i.size, i.bytes)) = some (some (.pointer none), 1, 8) := by kernel_rfl
    obtain ⟨i, hi, hz, h1, h2⟩ := info_parts h
    exact ⟨i, _, hi, hz, rfl, h1, h2⟩⟩
def Lg.cells (g : Lg) (p : Nat) (sv : Value) : List Value := [.pointer (some ⟨p, 0, none⟩), .string ⟨g.dir.toArray⟩, .int .i64 g.most, sv, .int .i64 g.start, .int .i64 g.safe, .bool g.down]
/-- The log's own blocks: its struct, its row. -/
def LHas (l : Nat) (sv : Value) (k : Nat) : Prop := k = l ∨ sv.ownBlock = some k
/-- .. and those of its segments, but segment i's. -/
def THas (ss : List (Nat × Value)) (k : Nat) : Prop := ∃ x ∈ ss, SHas x.1 x.2 k
def UHas (ss : List (Nat × Value)) (i : Nat) (k : Nat) : Prop := ∃ j, ∃ h : j < ss.length, j ≠ i ∧ SHas ss[j].1 ss[j].2 k
/-- What an operation of segment i keeps. -/
def BofI (B : Nat → Prop) (l : Nat) (sv : Value) (ss : List (Nat × Value)) (i : Nat) (k : Nat) : Prop := B k ∨ LHas l sv k ∨ UHas ss i k
/-- What an operation of the disk alone keeps. -/
def BofA (B : Nat → Prop) (l : Nat) (sv : Value) (ss : List (Nat × Value)) (k : Nat) : Prop := B k ∨ LHas l sv k ∨ THas ss k
structure LgS (B : Nat → Prop) (w : World) (p l : Nat) (S : Nat → Prop) (sv : Value) (ss : List (Nat × Value)) (d : Dk) (g : Lg) : Prop where
  lo : ∀ k, B k → k < w.heap.size
  a : DiskAt w p S d
  c : Box w l (g.cells p sv) 99
  o : OwnT w sv (ss.map (·.1))
  len : ss.length = g.segs.length
  m : ∀ i (h : i < ss.length), Sm w ss[i].1 p ss[i].2 (g.segs[i]'(len ▸ h))
  sl : ∀ k, S k → ¬ B k ∧ ¬ LHas l sv k ∧ ¬ THas ss k ∧ k < w.heap.size
  lb : ∀ k, LHas l sv k → ¬ B k ∧ ¬ THas ss k
  tb : ∀ k, THas ss k → ¬ B k
  apart : ∀ i j (hi : i < ss.length) (hj : j < ss.length), i ≠ j → ∀ k, SHas ss[i].1 ss[i].2 k → ¬ SHas ss[j].1 ss[j].2 k
/-- The log's own memory, whatever the disk is. -/
structure LgT (w : World) (p l : Nat) (sv : Value) (ss : List (Nat × Value)) (g : Lg) : Prop where
  c : Box w l (g.cells p sv) 99
  o : OwnT w sv (ss.map (·.1))
  len : ss.length = g.segs.length
  m : ∀ i (h : i < ss.length), Sm w ss[i].1 p ss[i].2 (g.segs[i]'(len ▸ h))
theorem LgS.t {B : Nat → Prop} {w : World} {p l : Nat} {S : Nat → Prop} {sv : Value} {ss : List (Nat × Value)} {d : Dk} {g : Lg} (h : LgS B w p l S sv ss d g) : LgT w p l sv ss g := ⟨h.c, h.o, h.len, h.m⟩
theorem LgT.chg {S : Nat → Prop} {w w' : World} {p l : Nat} {sv : Value} {ss : List (Nat × Value)} {g : Lg} (h : LgT w p l sv ss g) (hc : Chg S w w') (hl : ∀ k, LHas l sv k → ¬ S k) (ht : ∀ k, (∃ x ∈ ss, SHas x.1 x.2 k) → ¬ S k) : LgT w' p l sv ss g :=
  ⟨h.c.chg hc (hl l (.inl rfl)), ownsRow_chg h.o hc (fun k hk => hl k (.inr hk)), h.len, fun i hi => (h.m i hi).chg hc (fun k hk => ht k ⟨ss[i], List.getElem_mem hi, hk⟩)⟩
theorem THas.of {ss : List (Nat × Value)} {i : Nat} (h : i < ss.length) {k : Nat} (hk : SHas ss[i].1 ss[i].2 k) : THas ss k := ⟨ss[i], List.getElem_mem h, hk⟩
theorem THas.at {ss : List (Nat × Value)} {k : Nat} (h : THas ss k) : ∃ i, ∃ hi : i < ss.length, SHas ss[i].1 ss[i].2 k := by
  obtain ⟨x, hx, hk⟩ := h
  obtain ⟨i, hi, rfl⟩ := List.getElem_of_mem hx
  exact ⟨i, hi, hk⟩
theorem UHas.all {ss : List (Nat × Value)} {i k : Nat} (h : UHas ss i k) : THas ss k := by
  obtain ⟨j, hj, _, hk⟩ := h
  exact THas.of hj hk
theorem LgS.lt {B : Nat → Prop} {w : World} {p l : Nat} {S : Nat → Prop} {sv : Value} {ss : List (Nat × Value)} {d : Dk} {g : Lg} (h : LgS B w p l S sv ss d g) : (∀ k, LHas l sv k → k < w.heap.size) ∧ ∀ k, THas ss k → k < w.heap.size := by
  refine ⟨?_, fun k hk => ?_⟩
  · rintro k (rfl | hk)
    · exact (Array.getElem?_eq_some_iff.1 h.c).1
    · exact h.o.lt k hk
  · obtain ⟨i, hi, hk⟩ := hk.at
    exact (h.m i hi).lt k hk
/-- Segment i beside all else. -/
theorem LgS.seg {B : Nat → Prop} {w : World} {p l : Nat} {S : Nat → Prop} {sv : Value} {ss : List (Nat × Value)} {d : Dk} {g : Lg} (h : LgS B w p l S sv ss d g) (i : Nat) (hi : i < ss.length) :
    SgS (BofI B l sv ss i) w p ss[i].1 S ss[i].2 d (g.segs[i]'(h.len ▸ hi)) := by
  refine ⟨?_, h.a, h.m i hi, fun k hk hs => (h.sl k hs).2.2.1 (THas.of hi hk), fun k hk => ⟨?_, (h.sl k hk).2.2.2⟩, fun k hk => ?_⟩
  · rintro k (hk | hk | hk)
    · exact h.lo k hk
    · exact h.lt.1 k hk
    · exact h.lt.2 k hk.all
  · rintro (hb | hb | hb)
    · exact (h.sl k hk).1 hb
    · exact (h.sl k hk).2.1 hb
    · exact (h.sl k hk).2.2.1 hb.all
  · rintro (hb | hb | ⟨j, hj, hji, hb⟩)
    · exact h.tb k (THas.of hi hk) hb
    · exact (h.lb k hb).2 (THas.of hi hk)
    · exact h.apart i j hi hj (fun e => hji e.symm) k hk hb
/-- The disk beside all of the log. -/
theorem LgS.ds {B : Nat → Prop} {w : World} {p l : Nat} {S : Nat → Prop} {sv : Value} {ss : List (Nat × Value)} {d : Dk} {g : Lg} (h : LgS B w p l S sv ss d g) : DsS (BofA B l sv ss) w p S d := by
  refine ⟨?_, h.a, fun k hk => ⟨?_, (h.sl k hk).2.2.2⟩⟩
  · rintro k (hk | hk | hk)
    · exact h.lo k hk
    · exact h.lt.1 k hk
    · exact h.lt.2 k hk
  · rintro (hb | hb | hb)
    · exact (h.sl k hk).1 hb
    · exact (h.sl k hk).2.1 hb
    · exact (h.sl k hk).2.2.1 hb
theorem LgS.nil {B : Nat → Prop} {w w' : World} {p l : Nat} {S : Nat → Prop} {sv : Value} {ss : List (Nat × Value)} {d : Dk} {g : Lg} (h : LgS B w p l S sv ss d g) (hc : Chg Nil w w') : LgS B w' p l S sv ss d g := by
  have hz := hc.size
  exact ⟨fun k hk => Nat.lt_of_lt_of_le (h.lo k hk) hz, h.a.chg hc (fun _ _ h => h), h.c.chg hc (fun h => h), ownsRow_chg h.o hc (fun _ _ h => h), h.len, fun i hi => (h.m i hi).chg hc (fun _ _ h => h),
    fun k hk => ⟨(h.sl k hk).1, (h.sl k hk).2.1, (h.sl k hk).2.2.1, Nat.lt_of_lt_of_le (h.sl k hk).2.2.2 hz⟩, h.lb, h.tb, h.apart⟩
/-- What segment i did is done within the log. -/
theorem LgS.back {B : Nat → Prop} {w w' : World} {p l : Nat} {S S' : Nat → Prop} {sv : Value} {ss : List (Nat × Value)} {d d' : Dk} {g : Lg} {g' : Sg} {v' : Value} (h : LgS B w p l S sv ss d g) {i : Nat} (hi : i < ss.length)
    (hs : SgS (BofI B l sv ss i) w' p ss[i].1 S' v' d' g') (hc : Chg (Off (BofI B l sv ss i)) w w') : LgS B w' p l S' sv (ss.set i (ss[i].1, v')) d' { g with segs := g.segs.set i g' } := by
  have hz := hc.size
  have hT : ∀ k, THas (ss.set i (ss[i].1, v')) k → SHas ss[i].1 v' k ∨ UHas ss i k := by
    intro k hk
    obtain ⟨j, hj, hk⟩ := hk.at
    rw [List.length_set] at hj
    rw [List.getElem_set] at hk
    by_cases hij : i = j
    · rw [if_pos hij] at hk; exact .inl hk
    · rw [if_neg hij] at hk; exact .inr ⟨j, hj, fun e => hij e.symm, hk⟩
  refine ⟨fun k hk => Nat.lt_of_lt_of_le (h.lo k hk) hz, hs.a, h.c.chg hc (fun hn => hn (.inr (.inl (.inl rfl)))), ?_, ?_, ?_, ?_, ?_, ?_, ?_⟩
  · rw [List.map_set]
    have e : ((ss.map (·.1)).set i ss[i].1) = ss.map (·.1) := by
      apply List.ext_getElem
      · rw [List.length_set]
      · intro n h1 h2
        rw [List.getElem_set]
        split
        · next e => subst e; rw [List.getElem_map]
        · rfl
    rw [e]
    exact ownsRow_chg h.o hc (fun k hk hn => hn (.inr (.inl (.inr hk))))
  · rw [List.length_set, List.length_set]; exact h.len
  · intro j hj
    rw [List.length_set] at hj
    simp only [List.getElem_set]
    by_cases hij : i = j
    · subst hij
      simp only [if_true]
      exact hs.m
    · simp only [if_neg hij]
      exact (h.m j hj).chg hc (fun k hk hn => hn (.inr (.inr ⟨j, hj, fun e => hij e.symm, hk⟩)))
  · intro k hk
    have h1 := hs.sl k hk
    refine ⟨fun hb => h1.1 (.inl hb), fun hb => h1.1 (.inr (.inl hb)), fun hb => ?_, h1.2⟩
    rcases hT k hb with hb | hb
    · exact hs.ap k hb hk
    · exact h1.1 (.inr (.inr hb))
  · intro k hk
    refine ⟨(h.lb k hk).1, fun hb => ?_⟩
    rcases hT k hb with hb | hb
    · exact hs.ml k hb (.inr (.inl hk))
    · exact (h.lb k hk).2 hb.all
  · intro k hk hb
    rcases hT k hk with hk | hk
    · exact hs.ml k hk (.inl hb)
    · exact h.tb k hk.all hb
  · intro a b ha hb hab k hk hk2
    rw [List.length_set] at ha hb
    rw [List.getElem_set] at hk hk2
    by_cases h1 : i = a
    · subst h1
      rw [if_pos rfl] at hk
      rw [if_neg hab] at hk2
      exact hs.ml k hk (.inr (.inr ⟨b, hb, fun e => hab e.symm, hk2⟩))
    · rw [if_neg h1] at hk
      by_cases h2 : i = b
      · subst h2
        rw [if_pos rfl] at hk2
        exact hs.ml k hk2 (.inr (.inr ⟨a, ha, fun e => h1 e.symm, hk⟩))
      · rw [if_neg h2] at hk2
        exact h.apart a b ha hb hab k hk hk2
end Go.Proofs.YtdjmifaidgbbaaaGreatDoor

/-
  What a log does, plain: all errors of the disk included. (Of the logs' seat.)
-/
set_option linter.unusedSimpArgs false
set_option linter.unusedVariables false
namespace Go.Proofs.YtdjmifaidgbbaaaGreatDoor
open Go.RowKit

def sg0 : Sg := ⟨[], 0, [], 0⟩
def Lg.last (g : Lg) : Sg := (g.segs[g.segs.length - 1]?).getD sg0
/-- The offset behind the last record. -/
def Lg.stop (g : Lg) : Int := g.last.next
/-- The device's error takes the log down. -/
def Lg.fail (g : Lg) (k : Nat) : Lg := if k = 14 then { g with down := true } else g
def flushLg (d : Dk) (g : Lg) : Nat × Dk × Lg :=
  if g.down = true then (6, d, g)
  else if (d.sync g.last.name).1 = 0 then (0, (d.sync g.last.name).2, { g with safe := g.stop })
  else ((d.sync g.last.name).1, (d.sync g.last.name).2, g.fail (d.sync g.last.name).1)
/-- A new segment at the end. -/
def moreLg (d : Dk) (g : Lg) : Nat × Dk × Lg :=
  if (d.make (segName g.dir g.stop.toNat)).1 = 0 then (0, (d.make (segName g.dir g.stop.toNat)).2, { g with segs := g.segs ++ [⟨segName g.dir g.stop.toNat, g.stop, [], 0⟩] })
  else ((d.make (segName g.dir g.stop.toNat)).1, (d.make (segName g.dir g.stop.toNat)).2, g)
def rollLg (d : Dk) (g : Lg) : Nat × Dk × Lg :=
  if (flushLg d g).1 = 0 then moreLg (flushLg d g).2.1 (flushLg d g).2.2 else flushLg d g
/-- The batch that Add makes of records. -/
def Lg.batch (g : Lg) (rs : List Rec) : Bt := ⟨g.stop, g.stop + rs.length, numbered g.stop rs⟩
/-- It is put at the end of the last segment. -/
def putLg (d : Dk) (g : Lg) (b : Bt) : Nat × Dk × Lg :=
  let r := addSg d g.last b.base b.en b.rs
  if r.1 = 0 then (0, r.2.1, { g with segs := g.segs.set (g.segs.length - 1) r.2.2 })
  else (r.1, r.2.1, ({ g with segs := g.segs.set (g.segs.length - 1) r.2.2 } : Lg).fail r.1)
def addLg (d : Dk) (g : Lg) (rs : List Rec) : Nat × Dk × Lg :=
  if g.down = true then (6, d, g)
  else if encErr (g.batch rs).base (g.batch rs).en (g.batch rs).rs ≠ 0 then (encErr (g.batch rs).base (g.batch rs).en (g.batch rs).rs, d, g)
  else if 0 < g.last.size ∧ g.most < (g.last.size : Int) + ((g.batch rs).bytes.length : Nat) then
    (if (rollLg d g).1 = 0 then putLg (rollLg d g).2.1 (rollLg d g).2.2 (g.batch rs) else ((rollLg d g).1, (rollLg d g).2.1, (rollLg d g).2.2.fail (rollLg d g).1))
  else putLg d g (g.batch rs)
end Go.Proofs.YtdjmifaidgbbaaaGreatDoor

/-
  A log's last segment, its end; an error that takes it down. (Of the logs' seat.)
-/
set_option linter.unusedSimpArgs false
set_option linter.unusedVariables false
namespace Go.Proofs.YtdjmifaidgbbaaaGreatDoor
open Go.RowKit Go.Maps

section
variable {w : World} {p l : Nat} {sv : Value} {ss : List (Nat × Value)} {g : Lg}

theorem LgT.lastSeg (h : LgT w p l sv ss g) (hne : 0 < ss.length) : g.last = g.segs[g.segs.length - 1]'(by have := h.len; omega) := by
  unfold Lg.last
  rw [List.getElem?_eq_getElem (by have := h.len; omega)]
  rfl
set_option maxHeartbeats 1000000 in
set_option maxRecDepth 20000 in
theorem llast_any (h : LgT w p l sv ss g) (hne : 0 < ss.length) (hl : ss.length ≤ 100000) :
    Calls Tryz.prog 55 #[.pointer (some ⟨l, 0, none⟩)] w fun e w' => e = .returned (.pointer (some ⟨(ss[ss.length - 1]'(by omega)).1, 0, none⟩)) ∧ Chg Nil w w' := by
  have c3 := h.c.cell (j := 3) rfl
  obtain ⟨a, cap, hv, _, hcell⟩ := h.o.val
  rw [List.length_map] at hv
  subst hv
  obtain ⟨b, rfl, hz⟩ := hcell (ss.length - 1) (by rw [List.length_map]; omega)
  rw [List.getElem_map] at hz
  obtain ⟨q, hq⟩ : ∃ q, (ss[ss.length - 1]'(by omega)).1 = q := ⟨_, rfl⟩
  rw [hq] at hz ⊢
  have hk0 : (1 : Int) ≤ (ss.length : Int) := by omega
  have hk1 : (ss.length : Int) - 1 < (ss.length : Int) := by omega
  clear h hcell hq hne
  generalize ss.length = m at *
  go_enter Tryz.func55, Tryz.ntmps55
  go_upto_region 1 with fail
  refine wp_region_mono _ (Chg Nil) (by kernel_rfl) (fun _ _ _ h k => h.trans k (fun _ h => h.elim)) [[], [0], [1], [2], [], [4], [5], [6], [7], [8], [3, 9], [10], [11]] rfl (by kernel_rfl) (Chg.refl _ _).drew ?_
  iterate 3 ((with_reducible apply Walk.eq); case h => (intro w2 hw2 N hN; simp only [depsOf, List.filterMap_nil, List.filterMap_cons, List.getElem?_toArray, List.getElem?_cons_zero, List.getElem?_cons_succ, Option.bind_some, List.nil_append, List.cons_append, Ob]; go_simp; (try go_bits); with_reducible exact hN _ (Chg.refl _ _)))
  ((with_reducible apply Walk.eq); case h => (intro w2 hw2 N hN; have hq := hw2.cell c3 (fun h => h); simp only [depsOf, List.filterMap_nil, List.filterMap_cons, List.getElem?_toArray, List.getElem?_cons_zero, List.getElem?_cons_succ, Option.bind_some, List.nil_append, List.cons_append, Ob]; go_simp; with_reducible exact hN _ (Chg.refl _ _)))
  iterate 3 ((with_reducible apply Walk.eq); case h => (intro w2 hw2 N hN; simp only [depsOf, List.filterMap_nil, List.filterMap_cons, List.getElem?_toArray, List.getElem?_cons_zero, List.getElem?_cons_succ, Option.bind_some, List.nil_append, List.cons_append, Ob]; go_simp; (try go_bits); with_reducible exact hN _ (Chg.refl _ _)))
  ((with_reducible apply Walk.eq); case h => (intro w2 hw2 N hN; have hq := hw2.cell c3 (fun h => h); simp only [depsOf, List.filterMap_nil, List.filterMap_cons, List.getElem?_toArray, List.getElem?_cons_zero, List.getElem?_cons_succ, Option.bind_some, List.nil_append, List.cons_append, Ob]; go_simp; with_reducible exact hN _ (Chg.refl _ _)))
  iterate 3 ((with_reducible apply Walk.eq); case h => (intro w2 hw2 N hN; simp only [depsOf, List.filterMap_nil, List.filterMap_cons, List.getElem?_toArray, List.getElem?_cons_zero, List.getElem?_cons_succ, Option.bind_some, List.nil_append, List.cons_append, Ob]; go_simp; (try go_bits); with_reducible exact hN _ (Chg.refl _ _)))
  ((with_reducible apply Walk.eq); case h => (intro w2 hw2 N hN; have hq := hw2.cell hz (fun h => h); simp only [depsOf, List.filterMap_nil, List.filterMap_cons, List.getElem?_toArray, List.getElem?_cons_zero, List.getElem?_cons_succ, Option.bind_some, List.nil_append, List.cons_append, Ob]; go_simp; with_reducible exact hN _ (Chg.refl _ _)))
  ((with_reducible apply Walk.eq); case h => (intro w2 hw2 N hN; simp only [depsOf, List.filterMap_nil, List.filterMap_cons, List.getElem?_toArray, List.getElem?_cons_zero, List.getElem?_cons_succ, Option.bind_some, List.nil_append, List.cons_append, Ob]; go_simp; (try go_bits); with_reducible exact hN _ (Chg.refl _ _)))
  intro w6 hw6
  simp only [List.nil_append, List.cons_append, Fin]
  go_simp
  go_wp2_with fail
  go_ret
  exact ⟨rfl, hw6⟩
set_option maxHeartbeats 1000000 in
theorem lend_any (h : LgT w p l sv ss g) (hne : 0 < ss.length) (hl : ss.length ≤ 100000) (hpl : g.last.pls.length ≤ 1000000) :
    Calls Tryz.prog 15 #[.pointer (some ⟨l, 0, none⟩)] w fun e w' => e = .returned (.int .i64 g.stop) ∧ Chg Nil w w' := by
  have HL := Lib.hid (llast_any h hne hl)
  have hls := h.lastSeg hne
  have HN : Hid (∀ w', Chg Nil w w' → Calls Tryz.prog 52 #[.pointer (some ⟨(ss[ss.length - 1]'(by omega)).1, 0, none⟩)] w' fun e w'' => e = .returned (.int .i64 g.stop) ∧ Chg Nil w' w'') := fun w' hw => by
    have h1 := (h.chg hw (fun _ _ h => h) (fun _ _ h => h)).m (ss.length - 1) (by omega)
    have e1 : g.segs[ss.length - 1]'(by have := h.len; omega) = g.last := by rw [hls]; congr 1; rw [h.len]
    have h2 := snext_any h1 (by rw [e1]; exact hpl)
    rw [e1] at h2
    exact h2
  obtain ⟨q, hq⟩ : ∃ q, (ss[ss.length - 1]'(by omega)).1 = q := ⟨_, rfl⟩
  rw [hq] at HL HN
  clear h hls hpl hq
  go_enter Tryz.func15, Tryz.ntmps15
  go_wp2_with fail
  refine HL.out.mono ?_
  rintro e w1 ⟨rfl, hc1⟩
  have HN1 := Lib.hid (HN.out w1 hc1)
  have HC1 := Lib.hid hc1
  clear hc1
  go_wp2_with fail
  refine HN1.out.mono ?_
  rintro e w2 ⟨rfl, hc2⟩
  go_wp2_with fail
  go_ret
  exact ⟨rfl, HC1.out.trans hc2 (fun _ h => h.elim)⟩
end
/-- One cell of the log's struct turned. -/
theorem LgS.cells {B : Nat → Prop} {w w' : World} {p l : Nat} {S : Nat → Prop} {sv : Value} {ss : List (Nat × Value)} {d : Dk} {g g' : Lg} (h : LgS B w p l S sv ss d g) (hc : Chg (fun k => k = l) w w') (hb : Box w' l (g'.cells p sv) 99) (hs : g'.segs = g.segs) : LgS B w' p l S sv ss d g' := by
  have hz := hc.size
  have hl : ∀ k, THas ss k → ¬ k = l := fun k hk e => (h.lb l (.inl rfl)).2 (e ▸ hk)
  refine ⟨fun k hk => Nat.lt_of_lt_of_le (h.lo k hk) hz, h.a.chg hc (fun k hk e => (h.sl k hk).2.1 (.inl e)), hb, ownsRow_chg h.o hc (fun k hk e => ?_), by rw [hs]; exact h.len, fun i hi => ?_,
    fun k hk => ⟨(h.sl k hk).1, (h.sl k hk).2.1, (h.sl k hk).2.2.1, Nat.lt_of_lt_of_le (h.sl k hk).2.2.2 hz⟩, h.lb, h.tb, h.apart⟩
  · have h1 : w.heap[l]? = _ := h.c
    rcases h.o.2 with ⟨hv, _⟩ | ⟨b, cap, cur, hv, _, hg, _⟩
    · rw [hv] at hk; cases hk
    · rw [hv] at hk
      obtain rfl : b = k := Option.some.inj hk
      rw [e, h1] at hg
      exact absurd (Obj.cells.inj (Option.some.inj hg)).2.1 (by decide)
  · have h1 := (h.m i hi).chg hc (fun k hk => hl k (THas.of hi hk))
    simp only [hs]
    exact h1
set_option maxHeartbeats 1000000 in
theorem lfail_any {B : Nat → Prop} {w : World} {p l : Nat} {S : Nat → Prop} {sv : Value} {ss : List (Nat × Value)} {d : Dk} {g : Lg} (h : LgS B w p l S sv ss d g) (hG : Handle w) (k : Nat) (hk : k ≠ 0) :
    Calls Tryz.prog 61 #[.pointer (some ⟨l, 0, none⟩), .iface 65 (.int .i64 (k : Nat))] w fun e w' => e = .returned (.iface 65 (.int .i64 (k : Nat))) ∧ LgS B w' p l S sv ss d (g.fail k) ∧ Chg (fun k => k = l) w w' := by
  have HTL := Lib.hid (tell_errno (k : Nat) w hG)
  have HH := Lib.hid h
  clear h hG
  by_cases h14 : k = 14
  · subst h14
    go_enter Tryz.func61, Tryz.ntmps61
    go_wp2_with fail
    refine HTL.out.mono ?_
    rintro e w1 ⟨rfl, hc1⟩
    have HH1 := Lib.hid (HH.out.nil hc1)
    have HC1 := Lib.hid hc1
    have c6 := HH1.out.c.cell (j := 6) rfl
    have f6 := HH1.out.c.free 6
    clear hc1
    go_wp2_with fail
    go_ret
    have hset : Chg (fun k => k = l) w1 (w1.setCell ⟨l, 6, none⟩ (.bool true)) := (Chg.refl (fun k => k = l) _).setCell (.inl rfl) _
    exact ⟨rfl, HH1.out.cells hset (HH1.out.c.set 6 _) rfl, (HC1.out.weak (fun _ h => h.elim)).trans hset (fun k hk => .inl hk)⟩
  · have hkb : ((k : Int) == 14) = false := beq_eq_false_iff_ne.2 (by omega)
    have HK := Lib.hid h14
    clear h14
    go_enter Tryz.func61, Tryz.ntmps61
    go_wp2_with fail
    refine HTL.out.mono ?_
    rintro e w1 ⟨rfl, hc1⟩
    have HH1 := Lib.hid (HH.out.nil hc1)
    have HC1 := Lib.hid hc1
    clear hc1
    go_wp2_with fail
    go_ret
    refine ⟨rfl, ?_, HC1.out.weak (fun _ h => h.elim)⟩
    unfold Lg.fail
    rw [if_neg HK.out]
    exact HH1.out
end Go.Proofs.YtdjmifaidgbbaaaGreatDoor
