/-
  DiskPlays: the two disks beside one another; what is done, as plain data.
-/
import Derived.Test.YthjdkhjdgmnliaaGreatDoorRkDm
import Derived.Test.YthjdkhjdgmnliaaGreatDoorRkSame
import Derived.Test.YthjdkhjdgmnliaaGreatDoorBareK
set_option linter.unusedSimpArgs false
set_option linter.unusedVariables false
namespace Go.Proofs.YthjdkhjdgmnliaaGreatDoor
open Go.RowKit Go.Maps Go.Sort Go.Shelf

/-- One of what is done with a disk. -/
structure Dc where
  what : Int
  name : Nm
  toN : Nm
  ba : Option Addr
  bytes : List UInt8
  bcap : Nat
  n : Int
  m : Int
def Dc.cells (x : Dc) : List Value := [.int .i64 x.what, .string ⟨x.name.toArray⟩, .string ⟨x.toN.toArray⟩, .slice x.ba x.bytes.length x.bcap, .int .i64 x.n, .int .i64 x.m]
def DcsAt (w : World) (a : Option Addr) (l : List Dc) : Prop := ∀ i (h : i < l.length), ∃ b off, a = some ⟨b, off, none⟩ ∧ ∀ j u, (l[i].cells)[j]? = some u → w.cell? ⟨b, off + i * 6 + j, none⟩ = some u
structure Dc.Ok (w : World) (x : Dc) : Prop where
  bytes : BytesAt w x.ba x.bytes
  n : x.n ≤ 9223372036854775807

/-- Both disks, of blocks since n0, none of which is one that is kept. -/
structure BothS (n0 : Nat) (w : World) (p q : Nat) (Av S T : Nat → Prop) (d e : Dk) : Prop where
  lo : n0 ≤ w.heap.size
  a : DiskAt w p S d
  b : RefAt w q T e
  ap : ∀ k, S k → ¬ T k
  s : ∀ k, S k → n0 ≤ k ∧ k < w.heap.size ∧ ¬ Av k
  t : ∀ k, T k → n0 ≤ k ∧ k < w.heap.size ∧ ¬ Av k
  av : ∀ k, Av k → k < w.heap.size
/-- What may change. -/
def Rg (n0 : Nat) (Av : Nat → Prop) : Nat → Prop := fun k => n0 ≤ k ∧ ¬ Av k
theorem RefAt.weak {S T : Nat → Prop} {w : World} {q : Nat} {d : Dk} (h : RefAt w q S d) (hn : ∀ k, S k → T k) : RefAt w q T d := by
  obtain ⟨v, rs, hm, he, hs⟩ := h
  exact ⟨v, rs, hm, he, fun k hk => hn k (hs k hk)⟩
theorem BothS.rg1 {n0 : Nat} {w w' : World} {p q : Nat} {Av S T : Nat → Prop} {d e : Dk} (h : BothS n0 w p q Av S T d e) (hc : Chg S w w') : Chg (Rg n0 Av) w w' :=
  hc.weak (fun k hk => .inl ⟨(h.s k hk).1, (h.s k hk).2.2⟩)
theorem BothS.rg2 {n0 : Nat} {w w' : World} {p q : Nat} {Av S T : Nat → Prop} {d e : Dk} (h : BothS n0 w p q Av S T d e) (hc : Chg T w w') : Chg (Rg n0 Av) w w' :=
  hc.weak (fun k hk => .inl ⟨(h.t k hk).1, (h.t k hk).2.2⟩)
theorem BothS.op1 {n0 : Nat} {w w' : World} {p q : Nat} {Av S T : Nat → Prop} {d d' e : Dk} (h : BothS n0 w p q Av S T d e) (ha : DiskAt w' p (Gr S w w') d') (hc : Chg S w w') : BothS n0 w' p q Av (Gr S w w') T d' e := by
  have hz := hc.size
  refine ⟨Nat.le_trans h.lo hz, ha, h.b.chg hc (fun k hk hs => h.ap k hs hk), ?_, ?_, fun k hk => ?_, fun k hk => ?_⟩
  · rintro k (hk | hk) ht
    · exact h.ap k hk ht
    · have := (h.t k ht).2.1; omega
  · rintro k (hk | hk)
    · have := h.s k hk; exact ⟨this.1, by omega, this.2.2⟩
    · exact ⟨by have := h.lo; omega, hk.2, fun hv => by have := h.av k hv; omega⟩
  · have := h.t k hk; exact ⟨this.1, by omega, this.2.2⟩
  · have := h.av k hk; omega
theorem BothS.op2 {n0 : Nat} {w w' : World} {p q : Nat} {Av S T : Nat → Prop} {d e e' : Dk} (h : BothS n0 w p q Av S T d e) (hb : RefAt w' q (Gr T w w') e') (hc : Chg T w w') : BothS n0 w' p q Av S (Gr T w w') d e' := by
  have hz := hc.size
  refine ⟨Nat.le_trans h.lo hz, h.a.chg hc (fun k hk hs => h.ap k hk hs), hb, ?_, fun k hk => ?_, ?_, fun k hk => ?_⟩
  · rintro k hs (hk | hk)
    · exact h.ap k hs hk
    · have := (h.s k hs).2.1; omega
  · have := h.s k hk; exact ⟨this.1, by omega, this.2.2⟩
  · rintro k (hk | hk)
    · have := h.t k hk; exact ⟨this.1, by omega, this.2.2⟩
    · exact ⟨by have := h.lo; omega, hk.2, fun hv => by have := h.av k hv; omega⟩
  · have := h.av k hk; omega
theorem BothS.nil {n0 : Nat} {w w' : World} {p q : Nat} {Av S T : Nat → Prop} {d e : Dk} (h : BothS n0 w p q Av S T d e) (hc : Chg Nil w w') : BothS n0 w' p q Av S T d e := by
  have hz := hc.size
  exact ⟨Nat.le_trans h.lo hz, h.a.chg hc (fun _ _ h => h), h.b.chg hc (fun _ _ h => h), h.ap, fun k hk => by have := h.s k hk; exact ⟨this.1, by omega, this.2.2⟩, fun k hk => by have := h.t k hk; exact ⟨this.1, by omega, this.2.2⟩, fun k hk => by have := h.av k hk; omega⟩
/-- A new block is kept, too. -/
theorem BothS.more {n0 : Nat} {w w' : World} {p q : Nat} {Av S T : Nat → Prop} {d e : Dk} (h : BothS n0 w p q Av S T d e) (hc : Chg Nil w w') {g : Nat} (hg : w.heap.size ≤ g) (hg' : g < w'.heap.size) : BothS n0 w' p q (fun k => Av k ∨ k = g) S T d e := by
  have h2 := h.nil hc
  refine ⟨h2.lo, h2.a, h2.b, h2.ap, fun k hk => ⟨(h2.s k hk).1, (h2.s k hk).2.1, ?_⟩, fun k hk => ⟨(h2.t k hk).1, (h2.t k hk).2.1, ?_⟩, ?_⟩
  · rintro (hv | hv)
    · exact (h.s k hk).2.2 hv
    · have := (h.s k hk).2.1; omega
  · rintro (hv | hv)
    · exact (h.t k hk).2.2 hv
    · have := (h.t k hk).2.1; omega
  · rintro k (hv | rfl)
    · exact h2.av k hv
    · exact hg'
theorem BothS.less {n0 : Nat} {w : World} {p q : Nat} {Av Av' S T : Nat → Prop} {d e : Dk} (h : BothS n0 w p q Av S T d e) (hv : ∀ k, Av' k → Av k) : BothS n0 w p q Av' S T d e :=
  ⟨h.lo, h.a, h.b, h.ap, fun k hk => ⟨(h.s k hk).1, (h.s k hk).2.1, fun x => (h.s k hk).2.2 (hv k x)⟩, fun k hk => ⟨(h.t k hk).1, (h.t k hk).2.1, fun x => (h.t k hk).2.2 (hv k x)⟩, fun k hk => h.av k (hv k hk)⟩
/-- Bytes that came in lie in none of their blocks. -/
theorem bytes_off {n0 : Nat} {w : World} {a : Option Addr} {l : List UInt8} {S : Nat → Prop} (hb : BytesAt w a l) (hw : w.heap.size = n0) (hS : ∀ k, S k → n0 ≤ k) : l ≠ [] → ∀ y, a = some y → ¬ S y.block := by
  intro hne y hy hk
  have hlen : 0 < l.length := List.length_pos_iff.2 hne
  obtain ⟨g, off, ha, hc⟩ := hb 0 hlen
  obtain rfl := Option.some.inj (hy.symm.trans ha)
  rcases Nat.lt_or_ge g w.heap.size with h' | h'
  · have h9 : n0 ≤ g := hS _ hk
    omega
  · simp [World.cell?, Array.getElem?_eq_none h'] at hc
def dwords : List Value := [.string ⟨#[109, 97, 107, 101]⟩, .string ⟨#[97, 100, 100]⟩, .string ⟨#[99, 117, 116]⟩, .string ⟨#[115, 121, 110, 99]⟩, .string ⟨#[114, 101, 110, 97, 109, 101]⟩, .string ⟨#[114, 101, 109, 111, 118, 101]⟩]
/-- What the looks at both disks tell, in any later world. -/
theorem BothS.looks {n0 : Nat} {w : World} {p q : Nat} {Av S T : Nat → Prop} {d : Dk} (h : BothS n0 w p q Av S T d d) :
    (∀ w', Chg Nil w w' → Calls Tryz.prog 16 #[.pointer (some ⟨p, 0, none⟩)] w' fun e w'' => e = .returned (.int .i64 (d.used : Nat)) ∧ Chg Nil w' w'') ∧
    (∀ w', Chg Nil w w' → Calls Tryz.prog 17 #[.pointer (some ⟨q, 0, none⟩)] w' fun e w'' => e = .returned (.int .i64 (d.used : Nat)) ∧ Chg Nil w' w'') ∧
    (∀ x : Nm, x.length ≤ 100 → ∀ w', Chg Nil w w' → Calls Tryz.prog 18 #[.pointer (some ⟨p, 0, none⟩), .string ⟨x.toArray⟩] w' fun e w'' => e = .returned (.int .i64 (d.size x)) ∧ Chg Nil w' w'') ∧
    (∀ x : Nm, ∀ w', Chg Nil w w' → Calls Tryz.prog 19 #[.pointer (some ⟨q, 0, none⟩), .string ⟨x.toArray⟩] w' fun e w'' => e = .returned (.int .i64 (d.size x)) ∧ Chg Nil w' w'') ∧
    (∀ x : Nm, ∀ w', Chg Nil w w' → Calls Tryz.prog 21 #[.pointer (some ⟨p, 0, none⟩), .string ⟨x.toArray⟩] w' fun e w'' => ∃ u, e = .returned u ∧ TextsIn w'' u (d.list x) ∧ Chg Nil w' w'') ∧
    (∀ x : Nm, ∀ w', Chg Nil w w' → Calls Tryz.prog 22 #[.pointer (some ⟨q, 0, none⟩), .string ⟨x.toArray⟩] w' fun e w'' => ∃ u, e = .returned u ∧ TextsIn w'' u (d.list x) ∧ Chg Nil w' w'') ∧
    (∀ x : Nm, x.length ≤ 100 → ∀ f m, ∀ w', Chg Nil w w' → Calls Tryz.prog 23 #[.pointer (some ⟨p, 0, none⟩), .string ⟨x.toArray⟩, .int .i64 f, .int .i64 m] w' fun e w'' => ∃ a c, e = .returned (.slice a (d.read x f m).length c) ∧ BytesAt w'' a (d.read x f m) ∧ Chg Nil w' w'') ∧
    (∀ x : Nm, ∀ f m, ∀ w', Chg Nil w w' → Calls Tryz.prog 24 #[.pointer (some ⟨q, 0, none⟩), .string ⟨x.toArray⟩, .int .i64 f, .int .i64 m] w' fun e w'' => ∃ a c, e = .returned (.slice a (d.read x f m).length c) ∧ BytesAt w'' a (d.read x f m) ∧ Chg Nil w' w'') := by
  have hok := h.a.ok
  have hu : d.used ≤ 1048576 := Nat.le_trans hok.fits hok.room
  refine ⟨fun w' hw => ?_, fun w' hw => ?_, fun x hx w' hw => ?_, fun x w' hw => ?_, fun x w' hw => ?_, fun x w' hw => ?_, fun x hx f m w' hw => ?_, fun x f m w' hw => ?_⟩
  · obtain ⟨mb, fs, sv, con, hd, hfs, _, _⟩ := (h.nil hw).a
    have he : usedOf con (fs.map (·.2)) = d.used := by unfold Dk.used; rw [hfs]; exact (used_eq con fs).symm
    have hl : fs.length ≤ 200 := by have := hok.few; rw [hfs, List.length_map] at this; exact this
    have := used_any hd (by rw [he]; exact hu) hl
    rw [he] at this
    exact this
  · obtain ⟨v, rs, hm, hfs, _⟩ := (h.nil hw).b
    have he := usedR_eq hfs
    have hl : rs.length ≤ 200 := by have := hok.few; rw [hfs, List.length_map] at this; exact this
    have := rused_any hm hl (by rw [← he]; exact hu)
    rw [← he] at this
    exact this
  · exact (size_any (h.nil hw).a ⟨x.toArray⟩ (by show x.toArray.size ≤ 4611686018427387904; simp; omega)).mono fun e w'' ⟨h1, h2⟩ => ⟨h1, by subst h2; exact Chg.refl _ _⟩
  · exact rsize_any (h.nil hw).b hok x
  · obtain ⟨mb, fs, sv, con, hd, hfs, _, _⟩ := (h.nil hw).a
    have hl : fs.length ≤ 200 := by have := hok.few; rw [hfs, List.length_map] at this; exact this
    have hnm : d.names = fs.map (·.1) := by unfold Dk.names; rw [hfs, List.map_map]; rfl
    refine (list_any hd hl ⟨x.toArray⟩).mono fun e w'' ⟨v, h1, h2, h3⟩ => ⟨v, h1, ?_, h3⟩
    have h4 := TextsIn.of_own h2
    rw [← hnm] at h4
    exact h4
  · obtain ⟨v, rs, hm, hfs, _⟩ := (h.nil hw).b
    have hl : rs.length ≤ 200 := by have := hok.few; rw [hfs, List.length_map] at this; exact this
    have hnm : d.names = rs.map Rf.x := by unfold Dk.names; rw [hfs, List.map_map]; rfl
    refine (rlist_any hm hl x).mono fun e w'' ⟨v, h1, h2, h3⟩ => ⟨v, h1, ?_, h3⟩
    have h4 := TextsIn.of_own h2
    rw [← hnm] at h4
    exact h4
  · exact (read_any (h.nil hw).a ⟨x.toArray⟩ (by show x.toArray.size ≤ 4611686018427387904; simp; omega) f m).mono fun e w'' ⟨v, h1, ⟨a, c, hv, hb, _, _⟩, h3⟩ => ⟨a, c, by rw [h1, hv], hb, h3⟩
  · exact rread_any (h.nil hw).b hok x f m
end Go.Proofs.YthjdkhjdgmnliaaGreatDoor
