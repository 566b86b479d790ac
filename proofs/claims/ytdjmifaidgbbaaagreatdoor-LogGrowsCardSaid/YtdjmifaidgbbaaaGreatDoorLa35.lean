/-
  A disk of one file, and of two, plain: what becomes of a segment there. (Of the segments' seat.)
-/
import Derived.Test.YtdjmifaidgbbaaaGreatDoorLa34
set_option linter.unusedSimpArgs false
set_option linter.unusedVariables false
namespace Go.Proofs.YtdjmifaidgbbaaaGreatDoor
open Go.RowKit Go.Lib

structure One (d : Dk) (room : Nat) (nm : Nm) (bs : List UInt8) : Prop where
  fs : ∃ sf, d.fs = [(nm, ⟨bs, sf⟩)]
  room : d.room = room
  left : d.left = -1
structure Two (d : Dk) (room : Nat) (nm : Nm) (bs : List UInt8) (nm2 : Nm) (cs : List UInt8) : Prop where
  fs : ∃ sf sf2, d.fs = [(nm, ⟨bs, sf⟩), (nm2, ⟨cs, sf2⟩)]
  ne : nm2 ≠ nm
  room : d.room = room
  left : d.left = -1
theorem step_same {d : Dk} (h : d.left = -1) : d.step = d := by
  unfold Dk.step stepL
  rw [h]
  cases d
  simp only at h
  subst h
  rfl
theorem does_true {d : Dk} (h : d.left = -1) : d.does = true := by unfold Dk.does didB; rw [h]; rfl
theorem One.find {d : Dk} {room : Nat} {nm : Nm} {bs : List UInt8} (h : One d room nm bs) : ∃ sf, d.find nm = some ⟨bs, sf⟩ := by
  obtain ⟨sf, hf⟩ := h.fs
  exact ⟨sf, by unfold Dk.find; rw [hf]; simp⟩
theorem One.size {d : Dk} {room : Nat} {nm : Nm} {bs : List UInt8} (h : One d room nm bs) : d.size nm = bs.length := by
  obtain ⟨sf, hf⟩ := h.find
  unfold Dk.size
  rw [hf]
theorem One.size_no {d : Dk} {room : Nat} {nm x : Nm} {bs : List UInt8} (h : One d room nm bs) (hx : x ≠ nm) : d.find x = none := by
  obtain ⟨sf, hf⟩ := h.fs
  have hb : (x == nm) = false := beq_eq_false_iff_ne.2 hx
  unfold Dk.find
  rw [hf]
  simp [List.lookup, hb]
theorem One.used {d : Dk} {room : Nat} {nm : Nm} {bs : List UInt8} (h : One d room nm bs) : d.used = bs.length := by
  obtain ⟨sf, hf⟩ := h.fs
  unfold Dk.used
  rw [hf]
  simp
theorem One.add {d : Dk} {room : Nat} {nm : Nm} {bs : List UInt8} (h : One d room nm bs) (b : List UInt8) :
    (room < bs.length + b.length → d.add nm b = (12, d)) ∧ (¬ room < bs.length + b.length → ∃ d', d.add nm b = (0, d') ∧ One d' room nm (bs ++ b)) := by
  obtain ⟨sf, hf⟩ := h.find
  obtain ⟨sf2, hfs⟩ := h.fs
  unfold Dk.add Dk.at
  rw [if_neg (by rw [does_true h.left]; simp), hf, step_same h.left]
  simp only [h.room, h.used]
  refine ⟨fun hr => by rw [if_pos hr]; rfl, fun hr => ?_⟩
  rw [if_neg hr]
  refine ⟨_, rfl, ⟨sf, ?_⟩, h.room, h.left⟩
  show (d.turn nm ⟨bs ++ b, sf⟩).fs = _
  unfold Dk.turn
  rw [hfs]
  simp
theorem One.sync {d : Dk} {room : Nat} {nm : Nm} {bs : List UInt8} (h : One d room nm bs) : ∃ d', d.sync nm = (0, d') ∧ One d' room nm bs := by
  obtain ⟨sf, hf⟩ := h.find
  obtain ⟨sf2, hfs⟩ := h.fs
  unfold Dk.sync Dk.at
  rw [if_neg (by rw [does_true h.left]; simp), hf, step_same h.left]
  refine ⟨_, rfl, ⟨bs.length, ?_⟩, h.room, h.left⟩
  show (d.turn nm ⟨bs, bs.length⟩).fs = _
  unfold Dk.turn
  rw [hfs]
  simp
theorem One.remove {d : Dk} {room : Nat} {nm : Nm} {bs : List UInt8} (h : One d room nm bs) : ∃ d', d.remove nm = (0, d') ∧ d'.used = 0 := by
  obtain ⟨sf, hf⟩ := h.find
  obtain ⟨sf2, hfs⟩ := h.fs
  unfold Dk.remove Dk.at
  rw [if_neg (by rw [does_true h.left]; simp), hf, step_same h.left]
  refine ⟨_, rfl, ?_⟩
  show (d.del nm).used = 0
  unfold Dk.used Dk.del
  rw [hfs]
  simp
theorem One.make {d : Dk} {room : Nat} {nm nm2 : Nm} {bs : List UInt8} (h : One d room nm bs) (hn : nm2 ≠ nm) (hk : dkName nm2 = true) : ∃ d', d.make nm2 = (0, d') ∧ Two d' room nm bs nm2 [] := by
  obtain ⟨sf2, hfs⟩ := h.fs
  unfold Dk.make
  rw [if_neg (by rw [does_true h.left]; simp), if_neg (by rw [hk]; simp), h.size_no hn, step_same h.left, if_neg (by simp), if_neg (by rw [hfs]; simp)]
  refine ⟨_, rfl, ⟨sf2, 0, ?_⟩, hn, h.room, h.left⟩
  unfold Dk.put
  rw [hfs]
  simp [Ne.symm hn]
theorem Two.find {d : Dk} {room : Nat} {nm nm2 : Nm} {bs cs : List UInt8} (h : Two d room nm bs nm2 cs) : ∃ sf, d.find nm2 = some ⟨cs, sf⟩ := by
  obtain ⟨sf, sf2, hf⟩ := h.fs
  refine ⟨sf2, ?_⟩
  unfold Dk.find
  rw [hf]
  have hb : (nm2 == nm) = false := beq_eq_false_iff_ne.2 h.ne
  simp [List.lookup, hb]
theorem Two.used {d : Dk} {room : Nat} {nm nm2 : Nm} {bs cs : List UInt8} (h : Two d room nm bs nm2 cs) : d.used = bs.length + cs.length := by
  obtain ⟨sf, sf2, hf⟩ := h.fs
  unfold Dk.used
  rw [hf]
  simp
theorem Two.add {d : Dk} {room : Nat} {nm nm2 : Nm} {bs cs : List UInt8} (h : Two d room nm bs nm2 cs) (b : List UInt8) :
    (room < bs.length + cs.length + b.length → d.add nm2 b = (12, d)) ∧ (¬ room < bs.length + cs.length + b.length → ∃ d', d.add nm2 b = (0, d') ∧ Two d' room nm bs nm2 (cs ++ b)) := by
  obtain ⟨sf, hf⟩ := h.find
  obtain ⟨sf1, sf2, hfs⟩ := h.fs
  have hne := h.ne
  unfold Dk.add Dk.at
  rw [if_neg (by rw [does_true h.left]; simp), hf, step_same h.left]
  simp only [h.room, h.used]
  refine ⟨fun hr => by rw [if_pos hr]; rfl, fun hr => ?_⟩
  rw [if_neg hr]
  refine ⟨_, rfl, ⟨sf1, sf, ?_⟩, h.ne, h.room, h.left⟩
  show (d.turn nm2 ⟨cs ++ b, sf⟩).fs = _
  unfold Dk.turn
  rw [hfs]
  simp [Ne.symm hne]
theorem Two.sync {d : Dk} {room : Nat} {nm nm2 : Nm} {bs cs : List UInt8} (h : Two d room nm bs nm2 cs) : ∃ d', d.sync nm2 = (0, d') ∧ Two d' room nm bs nm2 cs := by
  obtain ⟨sf, hf⟩ := h.find
  obtain ⟨sf1, sf2, hfs⟩ := h.fs
  have hne := h.ne
  unfold Dk.sync Dk.at
  rw [if_neg (by rw [does_true h.left]; simp), hf, step_same h.left]
  refine ⟨_, rfl, ⟨sf1, cs.length, ?_⟩, h.ne, h.room, h.left⟩
  show (d.turn nm2 ⟨cs, cs.length⟩).fs = _
  unfold Dk.turn
  rw [hfs]
  simp [Ne.symm hne]
theorem Two.remove {d : Dk} {room : Nat} {nm nm2 : Nm} {bs cs : List UInt8} (h : Two d room nm bs nm2 cs) : ∃ d', d.remove nm2 = (0, d') ∧ One d' room nm bs := by
  obtain ⟨sf, hf⟩ := h.find
  obtain ⟨sf1, sf2, hfs⟩ := h.fs
  have hne := h.ne
  unfold Dk.remove Dk.at
  rw [if_neg (by rw [does_true h.left]; simp), hf, step_same h.left]
  refine ⟨_, rfl, ⟨sf1, ?_⟩, h.room, h.left⟩
  show (d.del nm2).fs = _
  unfold Dk.del
  rw [hfs]
  simp [Ne.symm hne]
theorem Two.rename {d : Dk} {room : Nat} {nm nm2 : Nm} {bs cs : List UInt8} (h : Two d room nm bs nm2 cs) (hk : dkName nm = true) : ∃ d', d.rename nm2 nm = (0, d') ∧ One d' room nm cs := by
  obtain ⟨sf, hf⟩ := h.find
  obtain ⟨sf1, sf2, hfs⟩ := h.fs
  have hne := h.ne
  unfold Dk.rename Dk.at
  rw [if_neg (by rw [does_true h.left]; simp), hf, step_same h.left]
  simp only [hk]
  refine ⟨_, rfl, ⟨sf, ?_⟩, h.room, h.left⟩
  show ((d.del nm2).put nm ⟨cs, sf⟩).fs = _
  unfold Dk.put Dk.del
  rw [hfs]
  simp [Ne.symm hne]
/-- A batch that may be, at the end. -/
theorem addSg_ok {d : Dk} {g : Sg} {b : Bt} (hb : b.Ok) (hn : g.next ≤ b.base) : addSg d g b.base b.en b.rs = if (d.add g.name b.bytes).1 = 0 then (0, (d.add g.name b.bytes).2, g.noted b.base b.en b.rs b.bytes.length) else ((d.add g.name b.bytes).1, (d.add g.name b.bytes).2, g) := by
  unfold addSg
  rw [if_neg (by simpa using hb.err), if_neg (by omega)]
  rfl
theorem rew2_law {room : Nat} {nm nm2 : Nm} {bs : List UInt8} {g : Sg} : ∀ (l done : List Bt) (d : Dk) (gt : Sg), gt.name = nm2 → Two d room nm bs nm2 (batBs done) → SgOf gt done → (∀ b ∈ l, b.Ok) → rising (lastEnd gt.base done) l →
    (bs.length + (batBs done).length + (batBs l).length ≤ room → ∃ d' gt', rew2 d g gt l = rew3 d' g gt' ∧ Two d' room nm bs nm2 (batBs (done ++ l)) ∧ SgOf gt' (done ++ l) ∧ gt'.name = nm2) ∧
    (¬ bs.length + (batBs done).length + (batBs l).length ≤ room → bs.length + (batBs done).length ≤ room → ∃ d', rew2 d g gt l = (12, d', g) ∧ One d' room nm bs)
  | [], done, d, gt, hnm, hd, hg, _, _ => by
    refine ⟨fun _ => ⟨d, gt, rfl, by rw [List.append_nil]; exact hd, by rw [List.append_nil]; exact hg, hnm⟩, fun h h2 => ?_⟩
    exact absurd (by simpa [batBs] using h2) h
  | b :: l, done, d, gt, hnm, hd, hg, hok, hr => by
    have hb := hok b (List.mem_cons_self ..)
    have hn : gt.next ≤ b.base := by rw [hg.next]; exact hr.1
    have ha := hd.add b.bytes
    have e1 : rew2 d g gt (b :: l) = if (addSg d gt b.base b.en b.rs).1 = 0 then rew2 (addSg d gt b.base b.en b.rs).2.1 g (addSg d gt b.base b.en b.rs).2.2 l else ((addSg d gt b.base b.en b.rs).1, ((addSg d gt b.base b.en b.rs).2.1.remove gt.name).2, g) := rfl
    rw [e1, addSg_ok hb hn, hnm]
    by_cases hro : room < bs.length + (batBs done).length + b.bytes.length
    · rw [ha.1 hro, if_neg (by simp)]
      obtain ⟨d', h1, h2⟩ := hd.remove
      refine ⟨fun h => ?_, fun _ _ => ⟨d', ?_, h2⟩⟩
      · rw [batBs_cons, List.length_append] at h; omega
      · rw [if_neg (by simp)]
        show (12, (d.remove nm2).2, g) = _
        rw [h1]
    · obtain ⟨d', h1, h2⟩ := ha.2 hro
      rw [h1, if_pos rfl, if_pos rfl]
      have h3 := hg.noted hb hn
      have h4 : Two d' room nm bs nm2 (batBs (done ++ [b])) := by rw [batBs_snoc]; exact h2
      have h5 := rew2_law (room := room) (nm := nm) (nm2 := nm2) (bs := bs) (g := g) l (done ++ [b]) d' (gt.noted b.base b.en b.rs b.bytes.length) hnm h4 h3 (fun c hc => hok c (List.mem_cons_of_mem _ hc)) (by rw [lastEnd_snoc]; exact hr.2)
      have e2 : done ++ b :: l = done ++ [b] ++ l := by simp
      have e3 : (batBs (done ++ [b])).length = (batBs done).length + b.bytes.length := by rw [batBs_snoc, List.length_append]
      have e4 : (batBs (b :: l)).length = b.bytes.length + (batBs l).length := by rw [batBs_cons, List.length_append]
      rw [e2]
      exact ⟨fun h => h5.1 (by omega), fun h _ => h5.2 (by omega) (by omega)⟩
theorem rewL_law {room : Nat} {nm nm2 : Nm} {d : Dk} {g : Sg} {l0 l : List Bt} (h : One d room nm (batBs l0)) (hfit : (batBs l0).length ≤ room) (hg : SgOf g l0) (hnm : g.name = nm) (hne : nm2 ≠ nm) (h1 : dkName nm = true) (h2 : dkName nm2 = true) (hok : ∀ b ∈ l, b.Ok) (hr : rising g.base l) :
    ((batBs l0).length + (batBs l).length ≤ room → ∃ d' g', rewL d g nm2 l = (0, d', g') ∧ One d' room nm (batBs l) ∧ SgOf g' l ∧ g'.name = nm ∧ g'.base = g.base) ∧
    (¬ (batBs l0).length + (batBs l).length ≤ room → ∃ d', rewL d g nm2 l = (12, d', g) ∧ One d' room nm (batBs l0)) := by
  have e0 : rew0 d nm2 = (0, d) := by
    unfold rew0 Dk.size
    rw [h.size_no hne]
    rfl
  obtain ⟨d1, hm, ht⟩ := h.make hne h2
  have h3 := rew2_law (room := room) (nm := nm) (nm2 := nm2) (bs := batBs l0) (g := g) l [] d1 ⟨nm2, g.base, [], 0⟩ rfl ht ⟨rfl, rfl, fun b hb => (by cases hb), trivial⟩ hok hr
  have e1 : rewL d g nm2 l = rew2 d1 g ⟨nm2, g.base, [], 0⟩ l := by
    unfold rewL rew1
    rw [e0, if_pos rfl, hm, if_pos rfl]
  rw [e1]
  have e2 : (batBs ([] : List Bt)).length = 0 := rfl
  refine ⟨fun hf => ?_, fun hf => h3.2 (by omega) (by omega)⟩
  obtain ⟨d2, gt, e3, h4, h5, h6⟩ := h3.1 (by omega)
  rw [e3]
  obtain ⟨d3, hs, h7⟩ := h4.sync
  obtain ⟨d4, hn, h8⟩ := h7.rename h1
  unfold rew3 rew4
  rw [h6, hs, if_pos rfl, hnm, hn, if_pos rfl]
  exact ⟨d4, _, rfl, h8, ⟨h5.pls, h5.size, h5.ok, hr⟩, by first | exact hnm | rfl, rfl⟩
/-- A segment's name, and that of the file beside it, may be. -/
theorem digits_ok : ∀ n : Nat, (decDigits n).all (cutDisk.contains ·) = true := by
  intro n
  induction n using Nat.strongRecOn with
  | ind n ih =>
    have key : ∀ u, u < 10 → cutDisk.contains (UInt8.ofNat (48 + u)) = true := by decide
    by_cases h : n < 10
    · rw [dec_one h]
      simp only [List.all_cons, List.all_nil, Bool.and_true]
      exact key n h
    · rw [dec_step h, List.all_append, ih (n / 10) (by omega)]
      simp only [List.all_cons, List.all_nil, Bool.and_true, Bool.true_and]
      exact key (n % 10) (by omega)
theorem seg_ok (n : Nat) (hn : n ≤ 1099511627776) (c : UInt8) (hc : cutDisk.contains c = true) : dkName (segName [c] n) = true ∧ dkName (segName [c] n ++ dotnew) = true := by
  have h1 := dec_len 12 n (by omega)
  have h2 := digits_ok n
  have hz : (zeros n).all (cutDisk.contains ·) = true := by
    unfold zeros
    rw [List.all_eq_true]
    intro x hx
    rw [(List.mem_replicate.1 hx).2]
    decide
  have hd : dotlog.all (cutDisk.contains ·) = true := by decide
  have hw : dotnew.all (cutDisk.contains ·) = true := by decide
  have hs : ([47] : List UInt8).all (cutDisk.contains ·) = true := by decide
  have hm : c ∈ cutDisk := by simpa using hc
  have ha : (segName [c] n).all (cutDisk.contains ·) = true := by
    unfold segName pad
    rw [List.all_append, List.all_append, List.all_append, List.all_append, hz, h2, hd, hs]
    simp [hm]
  have hl : (segName [c] n).length ≤ 26 := by
    unfold segName pad zeros dotlog
    simp only [List.length_append, List.length_replicate, List.length_cons, List.length_nil]
    omega
  have hne : segName [c] n ≠ [] := by unfold segName; simp
  unfold dkName nameOk
  refine ⟨?_, ?_⟩
  · rw [ha]
    simp [hne]
    omega
  · rw [List.all_append, ha, hw]
    simp [hne, dotnew]
    omega
theorem new_ne (x : Nm) : x ++ dotnew ≠ x := by
  intro e
  have := congrArg List.length e
  rw [List.length_append] at this
  have h2 : dotnew.length = 4 := rfl
  omega
end Go.Proofs.YtdjmifaidgbbaaaGreatDoor
