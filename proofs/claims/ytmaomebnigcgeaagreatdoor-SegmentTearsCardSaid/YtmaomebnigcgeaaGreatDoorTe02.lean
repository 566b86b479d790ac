/-
  The search among a segment's places.
-/
import Derived.Test.YtmaomebnigcgeaaGreatDoorSmN
import Derived.Test.YtmaomebnigcgeaaGreatDoorTe01
import Derived.Deep.CutBlock
set_option linter.unusedSimpArgs false
set_option linter.unusedVariables false
namespace Go.Proofs.YtmaomebnigcgeaaGreatDoor
open Go.RowKit

theorem cmp_any (q : Pl) (n : Int) (w : World) :
    Calls Tryz.prog 58 #[.agg #[.int .i64 (q.at' : Nat), .int .i64 (q.size : Nat), .int .i64 q.base, .int .i64 q.en, .int .i64 q.time], .int .i64 n] w fun e w' => e = .returned (.int .i64 (if q.en ≤ n then -1 else 1)) ∧ Chg Nil w w' := by
  obtain ⟨qa, qs, qb, qe, qt⟩ := q
  have HAL := Lib.hid ((Chg.refl Nil w).alloc (.cells #[.int .i64 (qa : Nat), .int .i64 (qs : Nat), .int .i64 qb, .int .i64 qe, .int .i64 qt] 94))
  have hbx : Box (w.alloc (.cells #[.int .i64 (qa : Nat), .int .i64 (qs : Nat), .int .i64 qb, .int .i64 qe, .int .i64 qt] 94)) w.heap.size [.int .i64 (qa : Nat), .int .i64 (qs : Nat), .int .i64 qb, .int .i64 qe, .int .i64 qt] 94 := Box.new _ _ _
  have y3 := hbx.cell (j := 3) rfl
  clear hbx
  by_cases h : qe ≤ n
  · have he : (if qe ≤ n then (-1 : Int) else 1) = -1 := if_pos h
    have HE := Lib.hid he
    clear he
    go_enter Tryz.func58, Tryz.ntmps58
    go_wp2_with fail
    go_ret
    exact ⟨rfl, HAL.out⟩
  · have he : (if qe ≤ n then (-1 : Int) else 1) = 1 := if_neg h
    have HE := Lib.hid he
    clear he
    go_enter Tryz.func58, Tryz.ntmps58
    go_wp2_with fail
    go_ret
    exact ⟨rfl, HAL.out⟩

/-- What the search tells. -/
def SearchAt (l : List Pl) (n : Int) (w : World) (e : Ending) (w' : World) : Prop :=
  ∃ (k : Nat) (b : Value), e = .returned (.tuple #[.int .i64 k, b]) ∧ k ≤ l.length ∧ (∀ i (h : i < l.length), i < k → l[i].en ≤ n) ∧ (∀ h : k < l.length, n < l[k].en) ∧ Chg Nil w w'

set_option maxHeartbeats 2000000 in
set_option maxRecDepth 20000 in
theorem search_any {w : World} {a : Option Addr} {c : Nat} (l : List Pl) (hn : l.length ≤ 1000000) (hcell : ∀ i (h : i < l.length), ∃ g, a = some ⟨g, 0, none⟩ ∧ ∀ j u, (l[i].cells)[j]? = some u → w.cell? ⟨g, i * 5 + j, none⟩ = some u)
    (hmono : ∀ i j (h : j < l.length) (hij : i ≤ j), (l[i]'(Nat.lt_of_le_of_lt hij h)).en ≤ l[j].en) (n : Int) :
    Calls Tryz.prog 57 #[.slice a l.length c, .int .i64 n, .func (.func 58) #[] #[]] w (SearchAt l n w) := by
  have HCELL := Lib.hid hcell
  have HM := Lib.hid hmono
  clear hcell hmono
  go_enter Tryz.func57, Tryz.ntmps57
  go_wp2_with fail
  go_loopw [9, 10] (fun iv jv wr => ∃ (wq : World) (i j : Nat), wq = wr ∧ i ≤ j ∧ j ≤ l.length ∧ iv = .int .i64 i ∧ jv = .int .i64 j ∧ Hid (∀ t (h : t < l.length), t < i → l[t].en ≤ n) ∧ Hid (∀ t (h : t < l.length), j ≤ t → n < l[t].en) ∧ Chg Nil w wr) (fun iv jv _ => (RowKit.intOf jv).toNat - (RowKit.intOf iv).toNat)
  case atStart => exact ⟨_, 0, l.length, rfl, by omega, by omega, rfl, rfl, fun t h ht => by omega, fun t h ht => by omega, Chg.refl _ _⟩
  case round =>
    obtain ⟨wr, i, j, rfl, hij, hjl, rfl, rfl, hlo, hhi, hc⟩ := hrel
    have HLO := hlo
    have HHI := hhi
    have HC := Lib.hid hc
    clear hlo hhi hc
    by_cases hlt : i < j
    · obtain ⟨m, hm⟩ : ∃ m, (i + j) / 2 = m := ⟨_, rfl⟩
      have hm1 : i ≤ m := by omega
      have hm2 : m < j := by omega
      have hml : m < l.length := by omega
      obtain ⟨b, rfl, hz⟩ := HCELL.out m hml
      obtain ⟨q, hq⟩ : ∃ q, q = l[m] := ⟨_, rfl⟩
      rw [← hq] at hz
      have HQ := Lib.hid hq
      clear hq
      have HCM := Lib.hid (fun (w' : World) => cmp_any q n w')
      obtain ⟨qa, qs, qb, qe, qt⟩ := q
      have z0 := HC.out.cell (hz 0 _ rfl) (fun h => h)
      have z1 := HC.out.cell (hz 1 _ rfl) (fun h => h)
      have z2 := HC.out.cell (hz 2 _ rfl) (fun h => h)
      have z3 := HC.out.cell (hz 3 _ rfl) (fun h => h)
      have z4 := HC.out.cell (hz 4 _ rfl) (fun h => h)
      rw [Nat.add_zero] at z0
      clear hz
      have hmi : ((i : Int) + (j : Int)) / 2 = (m : Int) := by omega
      have hw64 : wrap64 ((i : Int) + (j : Int)) = (i : Int) + (j : Int) := by unfold wrap64; omega
      by_cases hle : qe ≤ n
      · have HL := Lib.hid hle
        clear hle
        go_wp2_with fail
        refine (HCM.out _).mono ?_
        rintro e w7 ⟨rfl, hc7⟩
        have he : (if qe ≤ n then (-1 : Int) else 1) = -1 := if_pos HL.out
        rw [he]
        have HC7 := Lib.hid (HC.out.trans hc7 (fun _ h => h.elim))
        clear he hc7 z0 z1 z2 z3 z4
        go_wp2_with fail
        go_roundw
        case rel =>
          refine ⟨_, m + 1, j, rfl, by omega, hjl, by go_num, rfl, fun t h ht => ?_, HHI, HC7.out⟩
          have h1 := HM.out t m hml (by omega)
          have h2 : l[m].en ≤ n := by rw [← HQ.out]; exact HL.out
          omega
        case measure => simp [RowKit.intOf]; omega
      · have HL := Lib.hid hle
        clear hle
        go_wp2_with fail
        refine (HCM.out _).mono ?_
        rintro e w7 ⟨rfl, hc7⟩
        have he : (if qe ≤ n then (-1 : Int) else 1) = 1 := if_neg (Int.not_le.2 HL.out)
        rw [he]
        have HC7 := Lib.hid (HC.out.trans hc7 (fun _ h => h.elim))
        clear he hc7 z0 z1 z2 z3 z4
        go_wp2_with fail
        go_roundw
        case rel =>
          refine ⟨_, i, m, rfl, by omega, by omega, rfl, by go_num, HLO, fun t h ht => ?_, HC7.out⟩
          have h1 := HM.out m t h (by omega)
          have h2 : n < l[m].en := by rw [← HQ.out]; exact HL.out
          omega
        case measure => simp [RowKit.intOf]; omega
    · obtain rfl : i = j := by omega
      have hii : ¬ ((i : Int) < (i : Int)) := by omega
      clear hlt
      by_cases hil : i < l.length
      · obtain ⟨b, rfl, hz⟩ := HCELL.out i hil
        obtain ⟨q, hq⟩ : ∃ q, q = l[i] := ⟨_, rfl⟩
        rw [← hq] at hz
        have HCM := Lib.hid (fun (w' : World) => cmp_any q n w')
        obtain ⟨qa, qs, qb, qe, qt⟩ := q
        have z0 := HC.out.cell (hz 0 _ rfl) (fun h => h)
        have z1 := HC.out.cell (hz 1 _ rfl) (fun h => h)
        have z2 := HC.out.cell (hz 2 _ rfl) (fun h => h)
        have z3 := HC.out.cell (hz 3 _ rfl) (fun h => h)
        have z4 := HC.out.cell (hz 4 _ rfl) (fun h => h)
        rw [Nat.add_zero] at z0
        clear hz hq
        have hil' : (i : Int) < (l.length : Int) := by omega
        go_wp2_with fail
        refine (HCM.out _).mono ?_
        rintro e w7 ⟨rfl, hc7⟩
        have HC7 := Lib.hid (HC.out.trans hc7 (fun _ h => h.elim))
        clear hc7 z0 z1 z2 z3 z4
        obtain ⟨x, hx⟩ : ∃ x, (if qe ≤ n then (-1 : Int) else 1) = x := ⟨_, rfl⟩
        have hx0 : (x == 0) = false := by
          rw [← hx]
          split <;> rfl
        have e1 : (if (Pl.mk qa qs qb qe qt).en ≤ n then (-1 : Int) else 1) = x := hx
        rw [e1]
        clear e1 hx
        go_wp2_with fail
        go_ret2
        unfold SearchAt
        exact ⟨i, _, rfl, by omega, HLO, fun h => HHI i h (Nat.le_refl _), HC7.out⟩
      · have hil' : ¬ (i : Int) < (l.length : Int) := by omega
        go_wp2_with fail
        go_ret2
        unfold SearchAt
        exact ⟨i, _, rfl, by omega, HLO, fun h => absurd h hil, HC.out⟩
end Go.Proofs.YtmaomebnigcgeaaGreatDoor

/-
  A segment is read. (Of the segments' seat.)
-/
set_option linter.unusedSimpArgs false
set_option linter.unusedVariables false
namespace Go.Proofs.YtmaomebnigcgeaaGreatDoor
open Go.RowKit Go.Maps

/-- A batch in memory: where its records lie. -/
structure Bm where
  b : Bt
  ra : Option Addr
  rc : Nat
def Bm.c3 (m : Bm) : List Value := [.int .i64 m.b.base, .int .i64 m.b.en, .slice m.ra m.b.rs.length m.rc]
theorem c3_one (a b : Int) (ra : Option Addr) (n c : Nat) : ∀ u ∈ ([.int .i64 a, .int .i64 b, .slice ra n c] : List Value), u.oneCell' = true := by
  intro u hu
  simp only [List.mem_cons, List.not_mem_nil, or_false] at hu
  rcases hu with rfl | rfl | rfl <;> rfl
theorem batT : SliceT Tryz.prog 64 41 3 40 :=
  ⟨Tryz.underlying64, by
    have h : (Tryz.prog.info? 41).map (fun i => (i.zero, i.size, i.bytes)) = some (some (.agg #[.int .i64 0, .int .i64 0, .slice none 0 0]), 3, 40) := by kernel_rfl
    obtain ⟨i, hi, hz, h1, h2⟩ := info_parts h
    exact ⟨i, _, hi, hz, rfl, h1, h2⟩⟩
/-- A slice of batches that is the call's own. -/
def OwnM (w : World) (v : Value) (l : List Bm) : Prop := w.ownsRow 0 41 3 v l.length (l.flatMap Bm.c3)
theorem OwnM.nil (w : World) : OwnM w (.slice none 0 0) [] := World.ownsRow_nil w 0 _ 3
theorem OwnM.form {w : World} {v : Value} {l : List Bm} (h : OwnM w v l) : v = .slice (vA v) l.length (vC v) := by
  rcases h.2 with ⟨rfl, hn⟩ | ⟨g, cap, cur, rfl, _, _, hle, _⟩
  · rw [hn]; rfl
  · rfl
/-- Its records. -/
def BmAt (n0 : Nat) (w : World) (m : Bm) : Prop := RecsAt w m.ra m.b.rs ∧ m.b.rs.length ≤ m.rc ∧ ∀ x, m.ra = some x → m.b.rs ≠ [] → n0 ≤ x.block
theorem BmAt.nil {n0 : Nat} {w w' : World} {m : Bm} (h : BmAt n0 w m) (hc : Chg Nil w w') : BmAt n0 w' m := ⟨h.1.chg hc (fun _ _ h => h), h.2⟩
theorem BmAt.chg {n0 : Nat} {S : Nat → Prop} {w w' : World} {m : Bm} (h : BmAt n0 w m) (hc : Chg S w w') (hn : m.b.rs ≠ [] → ∀ x, m.ra = some x → ¬ S x.block) : BmAt n0 w' m := by
  refine ⟨?_, h.2⟩
  by_cases h0 : m.b.rs = []
  · intro i hi
    rw [h0] at hi
    exact absurd hi (by simp)
  · exact h.1.chg hc (hn h0)
theorem RecsAt.lt {w : World} {a : Option Addr} {rs : List Rec} (h : RecsAt w a rs) (h0 : rs ≠ []) {x : Addr} (hx : a = some x) : x.block < w.heap.size := by
  obtain ⟨b, off, ha, hc⟩ := h 0 (List.length_pos_iff.2 h0)
  rw [ha] at hx
  have h1 := World.block_lt_of_cell? _ _ (hc 0 _ rfl)
  obtain rfl := Option.some.inj hx
  exact h1
theorem OwnM.lt {w : World} {v : Value} {l : List Bm} (h : OwnM w v l) : ∀ k, v.ownBlock = some k → k < w.heap.size := ownsRow_lt h
/-- What was read: batches that were made since. -/
def ReadAt (n0 : Nat) (w : World) (v : Value) (bl : List Bt) : Prop :=
  ∃ ms : List Bm, OwnM w v ms ∧ ms.map Bm.b = bl ∧ (∀ m ∈ ms, BmAt n0 w m) ∧ ∀ k, v.ownBlock = some k → n0 ≤ k
theorem ReadAt.nil {n0 : Nat} {w w' : World} {v : Value} {bl : List Bt} (h : ReadAt n0 w v bl) (hc : Chg Nil w w') : ReadAt n0 w' v bl := by
  obtain ⟨ms, h1, h2, h3, h4⟩ := h
  exact ⟨ms, ownsRow_chg h1 hc (fun _ _ h => h), h2, fun m hm => (h3 m hm).nil hc, h4⟩

set_option maxHeartbeats 0 in
set_option maxRecDepth 20000 in
theorem sread_any {B : Nat → Prop} {w : World} {p s : Nat} {S : Nat → Prop} {v : Value} {d : Dk} {g : Sg} (h : SgS B w p s S v d g) (hg : g.name.length ≤ 1000) (l : List Bt) (hof : SgOf g l) (sf : Nat) (hf : d.find g.name = some ⟨batBs l, sf⟩) (frm most : Int) :
    Calls Tryz.prog 34 #[.pointer (some ⟨s, 0, none⟩), .int .i64 frm, .int .i64 most] w fun e w' => ∃ u, e = .returned (.tuple #[u, .nilIface]) ∧ ReadAt w.heap.size w' u (readL l frm most) ∧ Chg Nil w w' := by
  have HL : Hid (l.length ≤ 99999) := by
    have h1 := batBs_len hof.ok
    have h2 := used_le hf
    have h3 := h.a.ok.fits
    have h4 := h.a.ok.room
    have h2 : (batBs l).length ≤ d.used := h2
    unfold Hid
    omega
  have hpl : g.pls.length = l.length := by rw [hof.pls, plsOf_length]
  have hgp : ∀ i (hi : i < l.length), g.pls[i]? = some ⟨(batBs (l.take i)).length, l[i].bytes.length, l[i].base, l[i].en, timeOf l[i].rs⟩ := fun i hi => by
    rw [hof.pls, plsOf_get 0 l i hi, Nat.zero_add]
  obtain ⟨a, c, hv, hle, _, hcell⟩ := h.m.o.val
  have HSE := Lib.hid (search_any (w := w) (a := a) (c := c) g.pls (by have := HL.out; omega) hcell (fun i j hj hij => by
    have h1 := en_mono hof.ok hof.up (i := i) (j := j) (by omega) hij
    have h2 := hgp i (by omega)
    have h3 := hgp j (by omega)
    rw [List.getElem?_eq_getElem (by omega)] at h2 h3
    rw [Option.some.inj h2, Option.some.inj h3]
    exact h1) frm)
  have c3 := h.m.c.cell (j := 3) rfl
  have c0 := h.m.c.cell (j := 0) rfl
  have c1 := h.m.c.cell (j := 1) rfl
  have HS := Lib.hid h
  have HOF := Lib.hid hof
  have HPL := Lib.hid hpl
  have HGP := Lib.hid hgp
  have HCELL := Lib.hid hcell
  have hkc : l.length ≤ c := by omega
  subst hv
  rw [hpl] at c3 HSE
  have HF := Lib.hid hf
  have HGN : Hid ((ByteArray.mk g.name.toArray).size ≤ 4611686018427387904) := by show g.name.toArray.size ≤ 4611686018427387904; simp; omega
  clear h hof hpl hgp hcell hle hf hg
  go_enter Tryz.func34, Tryz.ntmps34
  go_wp2_with fail
  refine HSE.out.mono ?_
  rintro e w1 ⟨k, bv, rfl, hk, hlo, hhi, hc1⟩
  have HC1 := Lib.hid hc1
  have HLO := Lib.hid hlo
  have HHI := Lib.hid hhi
  have hkl : k ≤ l.length := by rw [← HPL.out]; exact hk
  have c3 := hc1.cell c3 (fun h => h)
  have hk1 : (k : Int) ≤ (l.length : Int) := by omega
  have hk2 : (k : Int) ≤ (c : Int) := by omega
  have HKL := Lib.hid hkl
  clear hc1 hlo hhi hk hkl
  by_cases hkl : k < l.length
  · obtain ⟨gb, rfl, _⟩ := HCELL.out 0 (by have := HPL.out; omega)
    have hck : ¬ c = k := by omega
    have HST : Hid (readGo true most (l.drop k) = readL l frm most) := by
      unfold Hid readL
      rw [drop_search HKL.out (fun i hi hik => ?_) (fun hh => ?_)]
      · have h1 := HLO.out i (by have := HPL.out; omega) hik
        have h2 := HGP.out i hi
        rw [List.getElem?_eq_getElem (by have := HPL.out; omega)] at h2
        rw [Option.some.inj h2] at h1
        exact h1
      · have h1 := HHI.out (by have := HPL.out; omega)
        have h2 := HGP.out k hh
        rw [List.getElem?_eq_getElem (by have := HPL.out; omega)] at h2
        rw [Option.some.inj h2] at h1
        exact h1
    have hdm : (l.length - k : Nat) ≤ 99999 := by have := HL.out; omega
    go_wp2_with fail
    clear c3
    go_loopw [2, 10, 32] (fun mv ov iv wr => ∃ (wq : World) (i : Nat) (mo : Int) (ms : List Bm), wq = wr ∧ i ≤ l.length - k ∧ iv = .int .i64 i ∧ mv = .int .i64 mo ∧ OwnM wr ov ms ∧ Hid ((∀ m ∈ ms, BmAt w.heap.size wr m) ∧ (∀ q, ov.ownBlock = some q → w.heap.size ≤ q) ∧ ms.length ≤ i ∧ ms.map Bm.b ++ readGo ms.isEmpty mo (l.drop (k + i)) = readL l frm most ∧ ∀ m ∈ ms, m.b.rs ≠ [] → ∀ x, m.ra = some x → ov.ownBlock ≠ some x.block) ∧ Chg Nil w wr) (fun _ _ iv _ => l.length - k - (RowKit.intOf iv).toNat)
    case atStart => exact ⟨_, 0, most, [], rfl, by omega, rfl, rfl, OwnM.nil _, ⟨fun m hm => (by cases hm), fun q hq => (by simp [Value.ownBlock] at hq), by simp, HST.out, fun m hm => (by cases hm)⟩, HC1.out⟩
    case round =>
      obtain ⟨wr, i, mo, ms, rfl, hi, rfl, rfl, hown, hst, hc⟩ := hrel
      have HC := Lib.hid hc
      have HT : Hid _ := hst
      have hov := hown.form
      generalize vA _ = oa at hov
      generalize vC _ = oc at hov
      subst hov
      have HOW := Lib.hid hown
      clear hc hst hown
      by_cases hil : i < l.length - k
      · have hii : (i : Int) < ((l.length - k : Nat) : Int) := by omega
        have hkil : k + i < l.length := by omega
        have hbk : ∃ bt : Bt, l[k + i] = bt := ⟨_, rfl⟩
        obtain ⟨⟨bb, be, brs⟩, hbt⟩ := hbk
        have HBK : Hid ((Bt.mk bb be brs).Ok) := by rw [← hbt]; exact HOF.out.ok _ (List.getElem_mem hkil)
        obtain ⟨qs, hqs⟩ : ∃ qs, (Bt.mk bb be brs).bytes.length = qs := ⟨_, rfl⟩
        obtain ⟨qa, hqa⟩ : ∃ qa, (batBs (l.take (k + i))).length = qa := ⟨_, rfl⟩
        obtain ⟨qt, hqt⟩ : ∃ qt, timeOf brs = qt := ⟨_, rfl⟩
        obtain ⟨g2, hg2, hz⟩ := HCELL.out (k + i) (by have := HPL.out; omega)
        have hgq : g.pls[k + i]'(by have := HPL.out; omega) = ⟨qa, qs, bb, be, qt⟩ := by
          have h2 := HGP.out (k + i) hkil
          rw [List.getElem?_eq_getElem (by have := HPL.out; omega)] at h2
          rw [Option.some.inj h2, hbt, hqa]
          show Pl.mk qa (Bt.mk bb be brs).bytes.length bb be (timeOf brs) = _
          rw [hqs, hqt]
        obtain rfl : gb = g2 := by simpa using hg2
        rw [hgq] at hz
        have hof5 : (k + i) * 5 = k * 5 + i * 5 := by omega
        rw [hof5] at hz
        have z0 := HC.out.cell (hz 0 _ rfl) (fun h => h)
        have z1 := HC.out.cell (hz 1 _ rfl) (fun h => h)
        have z2 := HC.out.cell (hz 2 _ rfl) (fun h => h)
        have z3 := HC.out.cell (hz 3 _ rfl) (fun h => h)
        have z4 := HC.out.cell (hz 4 _ rfl) (fun h => h)
        rw [Nat.add_zero] at z0
        have HL2 : Hid (d.read (ByteArray.mk g.name.toArray).data.toList (qa : Nat) (qs : Nat) = (Bt.mk bb be brs).bytes) := by
          show d.read g.name _ _ = _
          unfold Dk.read readOf
          rw [HF.out]
          have h1 := HBK.out.nums.some
          show (if ((qa : Nat) : Int) < 0 ∨ ((qs : Nat) : Int) ≤ 0 then [] else _) = _
          rw [if_neg (by omega)]
          show ((batBs l).drop qa).take qs = _
          have h2 := read_at l [] hkil
          rw [List.append_nil, hqa, hbt] at h2
          rw [h2, ← hqs]
          exact List.take_left' rfl
        have HDR : Hid (l.drop (k + i) = ⟨bb, be, brs⟩ :: l.drop (k + (i + 1))) := by
          show l.drop (k + i) = _
          rw [List.drop_eq_getElem_cons hkil, hbt]
          rfl
        have HQS := Lib.hid hqs
        clear hz hgq hg2 hqa hqs hqt hbt hof5 hkil
        have hal := (Chg.refl Nil wr).alloc (.cells #[.int .i64 (qa : Nat), .int .i64 (qs : Nat), .int .i64 bb, .int .i64 be, .int .i64 qt] 94)
        have hbx := Box.new wr [.int .i64 (qa : Nat), .int .i64 (qs : Nat), .int .i64 bb, .int .i64 be, .int .i64 qt] 94
        go_upto_region 6 with fail
        clear z0 z1 z2 z3 z4
        have hbx : Box (wr.alloc (.cells #[.int .i64 (qa : Nat), .int .i64 (qs : Nat), .int .i64 bb, .int .i64 be, .int .i64 qt] 94)) wr.heap.size [.int .i64 (qa : Nat), .int .i64 (qs : Nat), .int .i64 bb, .int .i64 be, .int .i64 qt] 94 := hbx
        have HAL := Lib.hid hal
        clear hal
        generalize wr.alloc (.cells #[.int .i64 (qa : Nat), .int .i64 (qs : Nat), .int .i64 bb, .int .i64 be, .int .i64 qt] 94) = w2 at *
        generalize wr.heap.size = gq at *
        have y1 := hbx.cell (j := 1) rfl
        have HQB := Lib.hid hbx
        clear hbx
        have HC2 := Lib.hid (HC.out.trans HAL.out (fun _ h => h.elim))
        have HOW2 : Hid (OwnM w2 (.slice oa ms.length oc) ms) := ownsRow_chg HOW.out HAL.out (fun _ _ h => h)
        go_cut [44] (fun bv wy => bv = .bool (decide (ms ≠ [] ∧ mo < (qs : Int))) ∧ wy = w2)
        case first =>
          by_cases hms : ms = []
          · have hd : decide (ms ≠ [] ∧ mo < (qs : Int)) = false := decide_eq_false (fun h => h.1 hms)
            have HD := Lib.hid hd
            have h0 : ¬ (0 : Int) < (ms.length : Int) := by rw [hms]; simp
            clear hms hd
            go_wp2_with fail
            go_simp
            go_meet
            case rel => exact ⟨by rw [HD.out], rfl⟩
          · have h0 : (0 : Int) < (ms.length : Int) := by have := List.length_pos_iff.2 hms; omega
            by_cases hmo : mo < (qs : Int)
            · have hd : decide (ms ≠ [] ∧ mo < (qs : Int)) = true := decide_eq_true ⟨hms, hmo⟩
              have HD := Lib.hid hd
              clear hms hd
              go_wp2_with fail
              go_simp
              go_meet
              case rel => exact ⟨by rw [HD.out], rfl⟩
            · have hd : decide (ms ≠ [] ∧ mo < (qs : Int)) = false := decide_eq_false (fun h => hmo h.2)
              have HD := Lib.hid hd
              clear hms hd
              go_wp2_with fail
              go_simp
              go_meet
              case rel => exact ⟨by rw [HD.out], rfl⟩
        obtain ⟨rfl, hwc⟩ := hcut
        obtain rfl := hwc.symm
        clear y1
        by_cases hdo : ms ≠ [] ∧ mo < (qs : Int)
        · have hd : decide (ms ≠ [] ∧ mo < (qs : Int)) = true := decide_eq_true hdo
          rw [hd]
          have HEND : Hid (ms.map Bm.b = readL l frm most) := by
            have h1 := HT.out.2.2.2.1
            rw [HDR.out] at h1
            have h2 : ms.isEmpty = false := by
              cases hms : ms with
              | nil => exact absurd hms hdo.1
              | cons x r => rfl
            unfold readGo at h1
            rw [h2, if_pos ⟨rfl, by rw [HQS.out]; exact hdo.2⟩, List.append_nil] at h1
            exact h1
          have HTN : Hid (∀ m ∈ ms, BmAt w.heap.size w2 m) := fun m hm => (HT.out.1 m hm).nil HAL.out
          clear hd hdo
          go_wp2_with fail
          go_ret2
          exact ⟨_, rfl, ⟨ms, HOW2.out, HEND.out, HTN.out, HT.out.2.1⟩, HC2.out⟩
        · have hd : decide (ms ≠ [] ∧ mo < (qs : Int)) = false := decide_eq_false hdo
          rw [hd]
          have HNX : Hid (∀ m2 : Bm, m2.b = ⟨bb, be, brs⟩ → (ms ++ [m2]).map Bm.b ++ readGo (ms ++ [m2]).isEmpty (wrap64 (mo - (qs : Nat))) (l.drop (k + (i + 1))) = readL l frm most) := by
            intro m2 hm2
            have h1 := HT.out.2.2.2.1
            rw [HDR.out] at h1
            have h2 : (ms ++ [m2]).isEmpty = false := by cases ms <;> rfl
            unfold readGo at h1
            rw [if_neg (fun h => hdo ⟨(by intro e; rw [e] at h; exact absurd h.1 (by simp)), (by have h3 := h.2; rw [HQS.out] at h3; exact h3)⟩), HQS.out] at h1
            rw [h2, List.map_append, List.append_assoc, ← h1]
            show _ ++ ([m2.b] ++ _) = _
            rw [hm2]
            rfl
          clear hd hdo
          have y0 := HQB.out.cell (j := 0) rfl
          have y1 := HQB.out.cell (j := 1) rfl
          have c0 := HC2.out.cell c0 (fun h => h)
          have c1 := HC2.out.cell c1 (fun h => h)
          go_wp2_with fail
          obtain ⟨L, hL⟩ : ∃ L, (Bt.mk bb be brs).bytes = L := ⟨_, rfl⟩
          have HLL : Hid (L.length ≤ 6000) := by rw [← hL]; exact HBK.out.nums.len
          have HLQ : Hid (L.length = qs) := by rw [← hL]; exact HQS.out
          have hdw := decOut_whole HBK.out []
          rw [List.append_nil, hL] at hdw
          have HDE := Lib.hid hdw.1
          have HDO := Lib.hid hdw.2
          have HRL := Lib.hid (HL2.out.trans hL)
          clear hdw hL
          have hw2 : True := trivial
          go_upto_region 8 with fail
          clear hw2
          refine Ch.wp_region_last _ _ rfl (ZR w2.heap.size batch0) [18, 19] (BatF w2.heap.size L) (by kernel_rfl) (fun _ => ZR.refl _) (fun _ _ _ h k => h.trans k) [[], [0], [1], [2], [], [4], [5], [6], [], [8], [], [10], [3, 7, 9, 11], [12], [13], [14], [14], [14], [], [15, 18], [16]] rfl (by kernel_rfl) (by kernel_rfl) (by kernel_rfl) (ZR.of (Chg.refl Nil _).drew) ?_ ?_
          · trivial
          simp only [List.dropLast_cons_cons, List.dropLast_singleton]
          iterate 3 ((with_reducible apply Ch.Walk.eq); (case hd => rfl); (case hi => rfl); case h => (intro w2 hw2 N hN; simp only [Ch.depsOf, List.filterMap_nil, List.filterMap_cons, List.getElem?_toArray, List.getElem?_cons_zero, List.getElem?_cons_succ, Option.bind_some, List.nil_append, List.cons_append, Ch.Ob]; go_simp; (try go_bits); with_reducible exact hN _ (ZR.refl _) (fun _ h => h)))
          ((with_reducible apply Ch.Walk.eq); (case hd => rfl); (case hi => rfl); case h => (intro w2 hw2 N hN; (have hq := (hw2.nil (Nat.le_refl _)).cell c0 (fun h => h)); simp only [Ch.depsOf, List.filterMap_nil, List.filterMap_cons, List.getElem?_toArray, List.getElem?_cons_zero, List.getElem?_cons_succ, Option.bind_some, List.nil_append, List.cons_append, Ch.Ob]; go_simp; (try go_bits); with_reducible exact hN _ (ZR.refl _) (fun _ h => h)))
          iterate 3 ((with_reducible apply Ch.Walk.eq); (case hd => rfl); (case hi => rfl); case h => (intro w2 hw2 N hN; simp only [Ch.depsOf, List.filterMap_nil, List.filterMap_cons, List.getElem?_toArray, List.getElem?_cons_zero, List.getElem?_cons_succ, Option.bind_some, List.nil_append, List.cons_append, Ch.Ob]; go_simp; (try go_bits); with_reducible exact hN _ (ZR.refl _) (fun _ h => h)))
          ((with_reducible apply Ch.Walk.eq); (case hd => rfl); (case hi => rfl); case h => (intro w2 hw2 N hN; (have hq := (hw2.nil (Nat.le_refl _)).cell c1 (fun h => h)); simp only [Ch.depsOf, List.filterMap_nil, List.filterMap_cons, List.getElem?_toArray, List.getElem?_cons_zero, List.getElem?_cons_succ, Option.bind_some, List.nil_append, List.cons_append, Ch.Ob]; go_simp; (try go_bits); with_reducible exact hN _ (ZR.refl _) (fun _ h => h)))
          ((with_reducible apply Ch.Walk.eq); (case hd => rfl); (case hi => rfl); case h => (intro w2 hw2 N hN; simp only [Ch.depsOf, List.filterMap_nil, List.filterMap_cons, List.getElem?_toArray, List.getElem?_cons_zero, List.getElem?_cons_succ, Option.bind_some, List.nil_append, List.cons_append, Ch.Ob]; go_simp; (try go_bits); with_reducible exact hN _ (ZR.refl _) (fun _ h => h)))
          ((with_reducible apply Ch.Walk.eq); (case hd => rfl); (case hi => rfl); case h => (intro w2 hw2 N hN; (have hq := (hw2.nil (Nat.le_refl _)).cell y0 (fun h => h)); simp only [Ch.depsOf, List.filterMap_nil, List.filterMap_cons, List.getElem?_toArray, List.getElem?_cons_zero, List.getElem?_cons_succ, Option.bind_some, List.nil_append, List.cons_append, Ch.Ob]; go_simp; (try go_bits); with_reducible exact hN _ (ZR.refl _) (fun _ h => h)))
          ((with_reducible apply Ch.Walk.eq); (case hd => rfl); (case hi => rfl); case h => (intro w2 hw2 N hN; simp only [Ch.depsOf, List.filterMap_nil, List.filterMap_cons, List.getElem?_toArray, List.getElem?_cons_zero, List.getElem?_cons_succ, Option.bind_some, List.nil_append, List.cons_append, Ch.Ob]; go_simp; (try go_bits); with_reducible exact hN _ (ZR.refl _) (fun _ h => h)))
          ((with_reducible apply Ch.Walk.eq); (case hd => rfl); (case hi => rfl); case h => (intro w2 hw2 N hN; (have hq := (hw2.nil (Nat.le_refl _)).cell y1 (fun h => h)); simp only [Ch.depsOf, List.filterMap_nil, List.filterMap_cons, List.getElem?_toArray, List.getElem?_cons_zero, List.getElem?_cons_succ, Option.bind_some, List.nil_append, List.cons_append, Ch.Ob]; go_simp; (try go_bits); with_reducible exact hN _ (ZR.refl _) (fun _ h => h)))
          simp only [List.nil_append, List.cons_append]
          refine Ch.Walk.sat (fun v w => ∃ a c, v = .slice a L.length c ∧ BytesAt w a L ∧ L.length ≤ c ∧ c ≤ maxLen) ?_ rfl rfl ?_ ?_
          · rintro v w6 w7 ⟨a, c, rfl, hb, hl⟩ hz
            exact ⟨a, c, rfl, hz.bytes hb batch0_byte, hl⟩
          · intro w6 hw6 N hN
            have HRE := Lib.hid (read_any ((HS.out.nil HC2.out).nil (hw6.nil (Nat.le_refl _))).a ⟨g.name.toArray⟩ HGN.out (qa : Nat) (qs : Nat))
            simp only [Ch.depsOf, List.filterMap_nil, List.filterMap_cons, List.getElem?_toArray, List.getElem?_cons_zero, List.getElem?_cons_succ, Option.bind_some, List.nil_append, List.cons_append, Ch.Ob, Ch.chained_get, Option.map_some, List.idxOf?, List.findIdx?, List.findIdx?.go, Nat.reduceBEq, List.getD_cons_zero, List.getD_cons_succ, Nat.reduceAdd, if_true, if_false, Bool.false_eq_true]
            go_simp
            refine HRE.out.mono ?_
            rintro e w7 ⟨v, rfl, hfr, hc7⟩
            rw [HRL.out] at hfr
            obtain ⟨a, c, rfl, hb, hl, _, hm⟩ := hfr
            exact ⟨_, rfl, hN _ _ ⟨a, c, rfl, hb, hl, hm⟩ (ZR.of hc7) (fun vs hF => BatF.nil hc7 vs hF)⟩
          simp only [List.nil_append, List.cons_append]
          refine Ch.Walk.sat (DecIs w2.heap.size L) ?_ rfl rfl ?_ ?_
          · exact fun v w6 w7 h hz => h.zr hz
          · intro w6 hw6 N hN
            simp only [Ch.depsOf, List.filterMap_nil, List.filterMap_cons, List.getElem?_toArray, List.getElem?_cons_zero, List.getElem?_cons_succ, Option.bind_some, List.nil_append, List.cons_append, Ch.Ob, Ch.chained_get, Option.map_some, List.idxOf?, List.findIdx?, List.findIdx?.go, Nat.reduceBEq, List.getD_cons_zero, List.getD_cons_succ, Nat.reduceAdd, if_true, if_false, Bool.false_eq_true]
            rintro v ⟨a, c, rfl, hb, hl, hm⟩
            have HDC := Lib.hid (decode_out a L c w6 hl hm hb)
            clear hb hl hm
            go_simp
            refine HDC.out.mono ?_
            rintro e w7 ⟨v, rfl, hv, hc7⟩
            exact ⟨_, rfl, hN _ _ (hv.less hw6.size) (ZR.of hc7) (fun vs hF => BatF.nil hc7 vs hF)⟩
          simp only [List.nil_append, List.cons_append]
          refine Ch.Walk.sat (DecIs w2.heap.size L) ?_ rfl rfl ?_ ?_
          · exact fun v w6 w7 h hz => h.zr hz
          · intro w6 hw6 N hN
            simp only [Ch.depsOf, List.filterMap_nil, List.filterMap_cons, List.getElem?_toArray, List.getElem?_cons_zero, List.getElem?_cons_succ, Option.bind_some, List.nil_append, List.cons_append, Ch.Ob, Ch.chained_get, Option.map_some, List.idxOf?, List.findIdx?, List.findIdx?.go, Nat.reduceBEq, List.getD_cons_zero, List.getD_cons_succ, Nat.reduceAdd, if_true, if_false, Bool.false_eq_true]
            intro v hv
            go_simp
            exact hN _ _ hv (ZR.refl _) (fun vs hF => hF)
          simp only [List.nil_append, List.cons_append]
          refine Ch.Walk.sat (DecBt w2.heap.size L) ?_ rfl rfl ?_ ?_
          · exact fun v w6 w7 h hz => h.zr hz
          · intro w6 hw6 N hN
            simp only [Ch.depsOf, List.filterMap_nil, List.filterMap_cons, List.getElem?_toArray, List.getElem?_cons_zero, List.getElem?_cons_succ, Option.bind_some, List.nil_append, List.cons_append, Ch.Ob, Ch.chained_get, Option.map_some, List.idxOf?, List.findIdx?, List.findIdx?.go, Nat.reduceBEq, List.getD_cons_zero, List.getD_cons_succ, Nat.reduceAdd, if_true, if_false, Bool.false_eq_true]
            rintro v ⟨u, rfl, ho, hn⟩
            go_simp
            exact hN _ _ ⟨u, rfl, ho, hn⟩ (ZR.refl _) (fun vs hF => hF)
          simp only [List.nil_append, List.cons_append]
          (with_reducible apply Ch.Walk.eq (c := .int .i64 (qs : Nat))); (case hd => rfl); (case hi => rfl); case h =>
            intro w6 hw6 N hN
            simp only [Ch.depsOf, List.filterMap_nil, List.filterMap_cons, List.getElem?_toArray, List.getElem?_cons_zero, List.getElem?_cons_succ, Option.bind_some, List.nil_append, List.cons_append, Ch.Ob, Ch.chained_get, Option.map_some, List.idxOf?, List.findIdx?, List.findIdx?.go, Nat.reduceBEq, List.getD_cons_zero, List.getD_cons_succ, Nat.reduceAdd, if_true, if_false, Bool.false_eq_true]
            rintro v ⟨u, rfl, ho, hn⟩
            clear ho hn
            have hn : (decOut L).n = qs := by rw [HDO.out]; exact HLQ.out
            go_simp
            with_reducible exact hN _ (ZR.refl _) (fun _ h => h)
          simp only [List.nil_append, List.cons_append]
          (with_reducible apply Ch.Walk.eq (c := .nilIface)); (case hd => rfl); (case hi => rfl); case h =>
            intro w6 hw6 N hN
            simp only [Ch.depsOf, List.filterMap_nil, List.filterMap_cons, List.getElem?_toArray, List.getElem?_cons_zero, List.getElem?_cons_succ, Option.bind_some, List.nil_append, List.cons_append, Ch.Ob, Ch.chained_get, Option.map_some, List.idxOf?, List.findIdx?, List.findIdx?.go, Nat.reduceBEq, List.getD_cons_zero, List.getD_cons_succ, Nat.reduceAdd, if_true, if_false, Bool.false_eq_true]
            rintro v ⟨u, rfl, ho, hn⟩
            clear ho hn
            have hn : errV 32 (decErr L) = .nilIface := by rw [HDE.out]; rfl
            go_simp
            with_reducible exact hN _ (ZR.refl _) (fun _ h => h)
          simp only [List.nil_append, List.cons_append]
          refine Ch.Walk.chain 0 rfl rfl ?_ ?_
          · intro w8 hw8 vs hvs hF N hN
            obtain rfl := List.eq_nil_of_length_eq_zero hvs
            simp only [Ch.depsOf, List.filterMap_nil, List.filterMap_cons, List.getElem?_toArray, List.getElem?_cons_zero, List.getElem?_cons_succ, Option.bind_some, List.nil_append, List.cons_append, Ch.Ob, Ch.chained_get, Option.map_some, List.idxOf?, List.findIdx?, List.findIdx?.go, Nat.reduceBEq, List.getD_cons_zero, List.getD_cons_succ, Nat.reduceAdd, if_true, if_false, Bool.false_eq_true]
            go_simp
            have hal := (Chg.refl Nil w8).alloc (.cells #[.int .i64 0, .int .i64 0, .slice none 0 0] 41)
            exact hN _ _ (ZR.of hal) ⟨w8.heap.size, rfl, hw8.size, Box.new w8 [.int .i64 0, .int .i64 0, .slice none 0 0] _⟩
          simp only [List.nil_append, List.cons_append]
          refine Ch.Walk.chainSx (fun b : Nat => Value.pointer (some ⟨b, 0, none⟩)) (fun b w => w2.heap.size ≤ b ∧ Box w b [.int .i64 0, .int .i64 0, .slice none 0 0] 41) (fun _ _ h => h) rfl rfl ?_ ?_
          · intro w8 hw8 b hb N hN
            have hnb := hb.1
            have hbx := hb.2
            clear hb
            simp only [Ch.depsOf, List.filterMap_nil, List.filterMap_cons, List.getElem?_toArray, List.getElem?_cons_zero, List.getElem?_cons_succ, Option.bind_some, List.nil_append, List.cons_append, Ch.Ob, Ch.chained_get, Option.map_some, List.idxOf?, List.findIdx?, List.findIdx?.go, Nat.reduceBEq, List.getD_cons_zero, List.getD_cons_succ, Nat.reduceAdd, if_true, if_false, Bool.false_eq_true]
            intro v hv
            refine Exists.elim hv fun u hu2 => ?_
            have e3 := hu2.1
            have ho := hu2.2.1
            have hn := hu2.2.2
            clear hv hu2
            subst e3
            have hu := ho.form
            generalize vA u = ua at hu
            generalize vC u = uc at hu
            subst hu
            have hcs : Chg (fun k => k = b) w8 (((w8.setCell ⟨b, 0, none⟩ (.int .i64 (decOut L).base)).setCell ⟨b, 1, none⟩ (.int .i64 (decOut L).en)).setCell ⟨b, 2, none⟩ (.slice ua (decOut L).rs.length uc)) := (((Chg.refl (fun k => k = b) w8).setCell (p := ⟨b, 0, none⟩) (.inl rfl) _).setCell (p := ⟨b, 1, none⟩) (.inl rfl) _).setCell (p := ⟨b, 2, none⟩) (.inl rfl) _
            have HZ := Lib.hid (ZR.store hcs hnb hbx)
            have HB9 : Hid (Box (((w8.setCell ⟨b, 0, none⟩ (.int .i64 (decOut L).base)).setCell ⟨b, 1, none⟩ (.int .i64 (decOut L).en)).setCell ⟨b, 2, none⟩ (.slice ua (decOut L).rs.length uc)) b [.int .i64 (decOut L).base, .int .i64 (decOut L).en, .slice ua (decOut L).rs.length uc] 41) := ((hbx.set 0 _).set 1 _).set 2 _
            have HO := Lib.hid (ZR.ownsRow HZ.out ho batch0_rec)
            have HNN := Lib.hid hn
            have HNB := Lib.hid hnb
            have b0 := hbx.cell (j := 0) rfl
            have f0 := hbx.free 0
            have b1 := hbx.cell (j := 1) rfl
            have f1 := hbx.free 1
            have b2 := hbx.cell (j := 2) rfl
            have f2 := hbx.free 2
            clear hbx ho hn hcs hnb
            go_simp
            exact hN _ HZ.out ⟨b, _, rfl, HNB.out, HB9.out, HO.out, HNN.out⟩
          simp only [List.nil_append, List.cons_append]
          ((with_reducible apply Ch.Walk.eq); (case hd => rfl); (case hi => rfl); case h => (intro w2 hw2 N hN; simp only [Ch.depsOf, List.filterMap_nil, List.filterMap_cons, List.getElem?_toArray, List.getElem?_cons_zero, List.getElem?_cons_succ, Option.bind_some, List.nil_append, List.cons_append, Ch.Ob]; go_simp; (try go_bits); with_reducible exact hN _ (ZR.refl _) (fun _ h => h)))
          intro w6 hw6
          simp only [List.nil_append, List.cons_append, Ch.Fin, List.map_cons, List.map_nil, List.getD_cons_zero, List.getD_cons_succ]
          intro v1 _ v2 _ v3 _ v4 _ v5 _ hF
          have hF : ∃ b u, v5 = .pointer (some ⟨b, 0, none⟩) ∧ w2.heap.size ≤ b ∧ Box w6 b [.int .i64 (decOut L).base, .int .i64 (decOut L).en, u] 41 ∧ OwnR 55 w6 u (decOut L).rs ∧ ∀ k, u.ownBlock = some k → w2.heap.size ≤ k := hF
          rw [HDO.out] at hF
          refine Exists.elim hF fun b hF => ?_
          refine Exists.elim hF fun u hF => ?_
          have hv5 := hF.1
          have HNB := Lib.hid hF.2.1
          have hou := hF.2.2.2.1
          have hu := hou.form
          have HNU := Lib.hid hF.2.2.2.2
          have HW6 : Hid (Chg Nil w2 w6) := hw6.nil (Nat.le_refl _)
          have hbx := hF.2.2.1
          clear hF hw6
          subst hv5
          generalize vA u = ua at hu
          generalize vC u = uc at hu
          subst hu
          have HOU := Lib.hid hou
          have x0 := hbx.cell (j := 0) rfl
          have x1 := hbx.cell (j := 1) rfl
          have x2 := hbx.cell (j := 2) rfl
          have y1 := HW6.out.cell y1 (fun h => h)
          have y2 := HW6.out.cell (HQB.out.cell (j := 2) rfl) (fun h => h)
          clear hbx hou c0 c1 y0
          simp only [Ch.Then, Oper.wp]
          have hqq : ((qs : Int) == (qs : Int)) = true := beq_self_eq_true _
          have hbb : (bb == bb) = true := beq_self_eq_true _
          have HOW6 : Hid (OwnM w6 (.slice oa ms.length oc) ms) := ownsRow_chg HOW2.out HW6.out (fun _ _ h => h)
          have h63 : ms.length + 1 ≤ maxLen := by have := HT.out.2.2.1; unfold maxLen; omega
          have hby : (ms.length + 1) * 40 ≤ 140737488355328 := by have := HT.out.2.2.1; omega
          have HH63 := Lib.hid h63
          have HBY := Lib.hid hby
          have hb1 := Box.new w6 [.int .i64 bb, .int .i64 be, .slice ua brs.length uc] 41
          have HB1 := Lib.hid hb1
          clear hb1 h63 hby
          go_simp
          go_upto_region 11 with fail
          have HUS : Hid (∀ x, ua = some x → brs ≠ [] → w2.heap.size ≤ x.block ∧ x.block < w6.heap.size) := by
            intro x hx h0
            obtain ⟨ra, rc, hv, hrs, _⟩ := HOU.out.recs
            simp only [Value.slice.injEq] at hv
            obtain ⟨rfl, _, rfl⟩ := hv
            refine ⟨?_, hrs.lt h0 hx⟩
            rcases HOU.out.2 with ⟨h1, h2⟩ | ⟨g9, cap, cur, h1, _⟩
            · exact absurd (List.eq_nil_of_length_eq_zero h2) h0
            · simp only [Value.slice.injEq] at h1
              obtain ⟨h1, _, _⟩ := h1
              rw [hx] at h1
              obtain rfl := Option.some.inj h1
              exact HNU.out _ (by rw [hx]; rfl)
          have HRU : Hid (RecsAt w6 ua brs ∧ brs.length ≤ uc) := by
            obtain ⟨ra, rc, hv, hrs, hle⟩ := HOU.out.recs
            simp only [Value.slice.injEq] at hv
            obtain ⟨rfl, _, rfl⟩ := hv
            exact ⟨hrs, hle⟩
          clear y1 y2 hqq hbb
          go_wp2_with (at_builtin; go_must (refine wpList_append_grew rfl (.tmp 83) (.tmp 85) 64 64 rfl batT _ Tryz.underlying64 (by intro _; simp) _ _ _ rfl (ownsRow_chg HOW6.out ((Chg.refl Nil w6).alloc _) (fun _ _ h => h)) _ 1 [.int .i64 bb, .int .i64 be, .slice ua brs.length uc] rfl (Source.box HB1.out rfl (c3_one _ _ _ _ _)) HH63.out HBY.out ?_); intro v2 w7 hown2 hg2 _; obtain ⟨x2, n2, c2, rfl⟩ := ownsRow_form hown2)
          go_roundw
          case rel =>
            have hal1 := (Chg.refl Nil w6).alloc (.cells #[.int .i64 bb, .int .i64 be, .slice ua brs.length uc] 41)
            have hz1 := hal1.size
            have hz2 := HW6.out.size
            have hz3 := HAL.out.size
            have hz4 := HC.out.size
            have hol := HOW.out.lt
            have hsz : ∀ i, (Value.slice x2 n2 c2).ownBlock = some i → (Value.slice oa ms.length oc).ownBlock = some i ∨ w6.heap.size ≤ i := fun i hi => (hg2.own i hi).imp id (fun h => by omega)
            have hup : Chg (Own (.slice oa ms.length oc)) w2 w7 := ((HW6.out.trans hal1 (fun _ h => h.elim)).weak (fun _ h => h.elim)).trans hg2.chg (fun i hi => .inl hi)
            have hup2 : Chg (Own (.slice oa ms.length oc)) wr w7 := (HAL.out.weak (fun _ h => h.elim)).trans hup (fun i hi => .inl hi)
            refine ⟨_, i + 1, wrap64 (mo - (qs : Nat)), ms ++ [⟨⟨bb, be, brs⟩, ua, uc⟩], rfl, by omega, by go_num, rfl, ?_, ⟨?_, ?_, ?_, HNX.out _ rfl, ?_⟩, ?_⟩
            · unfold OwnM
              rw [List.length_append, List.flatMap_append, List.flatMap_cons, List.flatMap_nil, List.append_nil]
              exact hown2
            · intro m hm
              rcases List.mem_append.1 hm with hm | hm
              · exact (HT.out.1 m hm).chg hup2 (fun h0 x hx e => HT.out.2.2.2.2 m hm h0 x hx e)
              · rw [List.mem_singleton.1 hm]
                have hb0 : BmAt w.heap.size w6 ⟨⟨bb, be, brs⟩, ua, uc⟩ := ⟨HRU.out.1, HRU.out.2, fun x hx h0 => by have h1 := HUS.out x hx h0; omega⟩
                refine (hb0.nil hal1).chg hg2.chg (fun h0 x hx e => ?_)
                have h1 := HUS.out x hx h0
                have h2 := hol _ e
                omega
            · intro q hq
              rcases hsz q hq with h1 | h1
              · exact HT.out.2.1 q h1
              · omega
            · rw [List.length_append]
              have := HT.out.2.2.1
              simp only [List.length_cons, List.length_nil]
              omega
            · intro m hm h0 x hx e
              have h1 := hsz _ e
              rcases List.mem_append.1 hm with hm | hm
              · rcases h1 with h1 | h1
                · exact HT.out.2.2.2.2 m hm h0 x hx h1
                · have h2 := (HT.out.1 m hm).1.lt h0 hx
                  omega
              · rw [List.mem_singleton.1 hm] at h0 hx
                have h2 := HUS.out x hx h0
                rcases h1 with h1 | h1
                · have h3 := hol _ h1
                  omega
                · omega
            · exact HC.out.trans hup2 (fun i hi => .inr (HT.out.2.1 i hi))
          case measure => simp [RowKit.intOf]; omega
      · have hii : ¬ (i : Int) < ((l.length - k : Nat) : Int) := by omega
        have HEND : Hid (ms.map Bm.b = readL l frm most) := by
          have h1 := HT.out.2.2.2.1
          rw [List.drop_eq_nil_of_le (by omega)] at h1
          unfold readGo at h1
          rw [List.append_nil] at h1
          exact h1
        go_wp2_with fail
        go_ret2
        exact ⟨_, rfl, ⟨ms, HOW.out, HEND.out, HT.out.1, HT.out.2.1⟩, HC.out⟩
  · obtain rfl : k = l.length := by have := HKL.out; omega
    have HNIL : Hid (∀ w', Chg Nil w w' → ReadAt w.heap.size w' (.slice none 0 0) (readL l frm most)) := by
      intro w' hw'
      refine ⟨[], OwnM.nil _, ?_, fun m hm => (by cases hm), fun q hq => (by simp [Value.ownBlock] at hq)⟩
      unfold readL
      rw [drop_search (k := l.length) (Nat.le_refl _) (fun i hi hik => ?_) (fun hh => absurd hh (by omega)), List.drop_length]
      · rfl
      · have h1 := HLO.out i (by have := HPL.out; omega) hik
        have h2 := HGP.out i hi
        rw [List.getElem?_eq_getElem (by have := HPL.out; omega)] at h2
        rw [Option.some.inj h2] at h1
        exact h1
    by_cases hck : c = l.length
    · subst hck
      go_wp2_with fail
      go_loopw [10, 32] (fun ov iv wr => ∃ (wq : World), wq = wr ∧ ov = .slice none 0 0 ∧ iv = .int .i64 0 ∧ wr = w1) (fun _ _ _ => 0)
      case atStart => exact ⟨_, rfl, rfl, rfl, rfl⟩
      case round =>
        obtain ⟨wr, rfl, rfl, rfl, h1⟩ := hrel
        obtain rfl := h1.symm
        go_wp2_with fail
        go_ret2
        exact ⟨_, rfl, HNIL.out _ HC1.out, HC1.out⟩
    ·
      go_wp2_with fail
      go_loopw [10, 32] (fun ov iv wr => ∃ (wq : World), wq = wr ∧ ov = .slice none 0 0 ∧ iv = .int .i64 0 ∧ wr = w1) (fun _ _ _ => 0)
      case atStart => exact ⟨_, rfl, rfl, rfl, rfl⟩
      case round =>
        obtain ⟨wr, rfl, rfl, rfl, h1⟩ := hrel
        obtain rfl := h1.symm
        go_wp2_with fail
        go_ret2
        exact ⟨_, rfl, HNIL.out _ HC1.out, HC1.out⟩
end Go.Proofs.YtmaomebnigcgeaaGreatDoor

/-
  The least offset since a time. (Of the segments' seat.)
-/
set_option linter.unusedSimpArgs false
set_option linter.unusedVariables false
namespace Go.Proofs.YtmaomebnigcgeaaGreatDoor
open Go.RowKit Go.Maps

theorem OwnM.val {w : World} {v : Value} {l : List Bm} (h : OwnM w v l) : ∃ a cap, v = .slice a l.length cap ∧ l.length ≤ cap ∧
    ∀ i (h : i < l.length), ∃ g, a = some ⟨g, 0, none⟩ ∧ ∀ j u, (l[i].c3)[j]? = some u → w.cell? ⟨g, i * 3 + j, none⟩ = some u := by
  rcases h.2 with ⟨rfl, hn⟩ | ⟨g, cap, cur, rfl, _, _, hle, _⟩
  · exact ⟨none, 0, by rw [hn], by omega, fun i hi => absurd hi (by omega)⟩
  · have e1 : ∀ j, (⟨g, 0, none⟩ : Addr).add j = ⟨g, j, none⟩ := fun j => by unfold Addr.add; split <;> simp_all
    refine ⟨some ⟨g, 0, none⟩, cap, rfl, hle, fun i hi => ⟨g, rfl, fun j u hj => ?_⟩⟩
    have := World.ownsRow.cells h (g := g) rfl (i * 3 + j) _ (fm_get (f := Bm.c3) (n := 3) (fun _ => rfl) l i hi j _ hj)
    rwa [e1] at this
theorem fold_ge : ∀ (rs : List Rec) (a : Int), a ≤ rs.foldl (fun t r => max t r.time) a ∧ ∀ r ∈ rs, r.time ≤ rs.foldl (fun t r => max t r.time) a
  | [], a => ⟨Int.le_refl _, fun r hr => by cases hr⟩
  | x :: rs, a => by
    have h := fold_ge rs (max a x.time)
    rw [List.foldl_cons]
    refine ⟨by omega, fun r hr => ?_⟩
    rcases List.mem_cons.1 hr with rfl | hr
    · omega
    · exact h.2 r hr
theorem timeOf_ge (rs : List Rec) : ∀ r ∈ rs, r.time ≤ timeOf rs := (fold_ge rs (-1)).2
def sinceV : Option Rec → Value
  | some r => .tuple #[.int .i64 r.off, .bool true]
  | none => .tuple #[.int .i64 0, .bool false]
theorem since_none {l : List Bt} {t : Int} (h : ∀ b ∈ l, ∀ r ∈ b.rs, r.time < t) : sinceL l t = none := by
  unfold sinceL
  rw [List.find?_eq_none]
  intro r hr
  obtain ⟨b, hb, hr⟩ := List.mem_flatMap.1 hr
  have := h b hb r hr
  simp
  omega
theorem since_found {l : List Bt} {t : Int} {i j : Nat} (hi : i < l.length) (hj : j < l[i].rs.length) (h1 : ∀ b ∈ l.take i, ∀ r ∈ b.rs, r.time < t) (h2 : ∀ r ∈ l[i].rs.take j, r.time < t) (h3 : t ≤ l[i].rs[j].time) : sinceL l t = some l[i].rs[j] := by
  have e : l = l.take i ++ l[i] :: l.drop (i + 1) := by rw [List.getElem_cons_drop, List.take_append_drop]
  have e2 : l[i].rs = l[i].rs.take j ++ l[i].rs[j] :: l[i].rs.drop (j + 1) := by rw [List.getElem_cons_drop, List.take_append_drop]
  have n1 : ((l.take i).flatMap Bt.rs).find? (fun r => decide (t ≤ r.time)) = none := since_none h1
  have n2 : (l[i].rs.take j).find? (fun r => decide (t ≤ r.time)) = none := by
    rw [List.find?_eq_none]
    intro r hr
    have := h2 r hr
    simp
    omega
  unfold sinceL
  rw [show l.flatMap Bt.rs = (l.take i).flatMap Bt.rs ++ (l[i].rs ++ (l.drop (i + 1)).flatMap Bt.rs) by
    conv => lhs; rw [e]
    rw [List.flatMap_append, List.flatMap_cons]]
  rw [List.find?_append, n1, Option.none_or, List.find?_append]
  conv => lhs; arg 1; rw [e2]
  rw [List.find?_append, n2, Option.none_or, List.find?_cons_of_pos (by simpa using h3)]
  rfl
/-- Read at a batch's own offset is that batch. -/
theorem readL_one {n : Int} {l : List Bt} (hok : ∀ b ∈ l, b.Ok) (hup : rising n l) {k : Nat} (hk : k < l.length) : readL l l[k].base 0 = [l[k]] := by
  have h1 : l.dropWhile (fun b => decide (b.en ≤ l[k].base)) = l.drop k :=
    drop_search (Nat.le_of_lt hk) (fun i hi hik => rising_lt hok hup hk hik) (fun _ => (hok _ (List.getElem_mem hk)).nums.lt)
  unfold readL
  rw [h1, List.drop_eq_getElem_cons hk]
  unfold readGo
  rw [if_neg (fun h => by cases h.1)]
  congr 1
  have h2 := (hok _ (List.getElem_mem hk)).nums
  cases hd : l.drop (k + 1) with
  | nil => rfl
  | cons b r =>
    unfold readGo
    rw [if_pos]
    refine ⟨rfl, ?_⟩
    have h3 := h2.some
    have h4 := h2.len
    unfold wrap64
    omega

set_option maxHeartbeats 0 in
set_option maxRecDepth 20000 in
theorem ssince_any {B : Nat → Prop} {w : World} {p s : Nat} {S : Nat → Prop} {v : Value} {d : Dk} {g : Sg} (h : SgS B w p s S v d g) (hg : g.name.length ≤ 1000) (l : List Bt) (hof : SgOf g l) (sf : Nat) (hf : d.find g.name = some ⟨batBs l, sf⟩) (t : Int) :
    Calls Tryz.prog 14 #[.pointer (some ⟨s, 0, none⟩), .int .i64 t] w fun e w' => e = .returned (sinceV (sinceL l t)) ∧ Chg Nil w w' := by
  have HL : Hid (l.length ≤ 99999) := by
    have h1 := batBs_len hof.ok
    have h2 := used_le hf
    have h3 := h.a.ok.fits
    have h4 := h.a.ok.room
    have h2 : (batBs l).length ≤ d.used := h2
    unfold Hid
    omega
  have hpl : g.pls.length = l.length := by rw [hof.pls, plsOf_length]
  have hgp : ∀ i (hi : i < l.length), g.pls[i]? = some ⟨(batBs (l.take i)).length, l[i].bytes.length, l[i].base, l[i].en, timeOf l[i].rs⟩ := fun i hi => by
    rw [hof.pls, plsOf_get 0 l i hi, Nat.zero_add]
  obtain ⟨a, c, hv, hle, _, hcell⟩ := h.m.o.val
  have HRD := Lib.hid (fun (w' : World) (hw : Chg Nil w w') (frm : Int) => sread_any (h.nil hw) hg l hof sf hf frm 0)
  have c3 := h.m.c.cell (j := 3) rfl
  have HOF := Lib.hid hof
  have HPL := Lib.hid hpl
  have HGP := Lib.hid hgp
  have HCELL := Lib.hid hcell
  subst hv
  rw [hpl] at c3
  obtain ⟨R, hR⟩ : ∃ R, sinceL l t = R := ⟨_, rfl⟩
  rw [hR]
  have HR := Lib.hid hR
  have HNL : Hid (l.length ≤ 99999) := HL
  have hnn : l.length ≤ 99999 := HL.out
  clear h hof hpl hgp hcell hle hf hg hR
  go_enter Tryz.func14, Tryz.ntmps14
  go_wp2_with fail
  clear c3
  go_loopw [17] (fun iv wr => ∃ (wq : World) (i : Nat), wq = wr ∧ i ≤ l.length ∧ iv = .int .i64 i ∧ Hid (∀ b ∈ l.take i, ∀ r ∈ b.rs, r.time < t) ∧ Chg Nil w wr) (fun iv _ => l.length - (RowKit.intOf iv).toNat)
  case atStart => exact ⟨_, 0, rfl, by omega, rfl, fun b hb => (by simp at hb), Chg.refl _ _⟩
  case round =>
    obtain ⟨wr, i, rfl, hi, rfl, hno, hc⟩ := hrel
    have HC := Lib.hid hc
    have HNO : Hid _ := hno
    clear hc hno
    by_cases hil : i < l.length
    · have hii : (i : Int) < (l.length : Int) := by omega
      obtain ⟨bt, hbt⟩ : ∃ bt : Bt, l[i] = bt := ⟨_, rfl⟩
      obtain ⟨qt, hqt⟩ : ∃ qt, timeOf bt.rs = qt := ⟨_, rfl⟩
      obtain ⟨qs, hqs⟩ : ∃ qs, bt.bytes.length = qs := ⟨_, rfl⟩
      obtain ⟨qa, hqa⟩ : ∃ qa, (batBs (l.take i)).length = qa := ⟨_, rfl⟩
      obtain ⟨g2, rfl, hz⟩ := HCELL.out i (by have := HPL.out; omega)
      have hgq : g.pls[i]'(by have := HPL.out; omega) = ⟨qa, qs, bt.base, bt.en, qt⟩ := by
        have h2 := HGP.out i hil
        rw [List.getElem?_eq_getElem (by have := HPL.out; omega)] at h2
        rw [Option.some.inj h2, hbt, hqa, hqs, hqt]
      rw [hgq] at hz
      have z0 := HC.out.cell (hz 0 _ rfl) (fun h => h)
      have z1 := HC.out.cell (hz 1 _ rfl) (fun h => h)
      have z2 := HC.out.cell (hz 2 _ rfl) (fun h => h)
      have z3 := HC.out.cell (hz 3 _ rfl) (fun h => h)
      have z4 := HC.out.cell (hz 4 _ rfl) (fun h => h)
      rw [Nat.add_zero] at z0
      have HBT := Lib.hid hbt
      have HQT := Lib.hid hqt
      have HNX : Hid ((∀ r ∈ bt.rs, r.time < t) → ∀ b ∈ l.take (i + 1), ∀ r ∈ b.rs, r.time < t) := by
        intro h b hb r hr
        rw [List.take_succ_eq_append_getElem hil] at hb
        rcases List.mem_append.1 hb with hb | hb
        · exact HNO.out b hb r hr
        · rw [List.mem_singleton.1 hb, hbt] at hr
          exact h r hr
      have HONE : Hid (readL l bt.base 0 = [bt]) := by rw [← hbt]; exact readL_one HOF.out.ok HOF.out.up hil
      have HFND : Hid (∀ j (hj : j < bt.rs.length), (∀ r ∈ bt.rs.take j, r.time < t) → t ≤ bt.rs[j].time → R = some bt.rs[j]) := by
        intro j hj h2 h3
        subst hbt
        rw [← HR.out]
        exact since_found hil hj HNO.out h2 h3
      have HFEW : Hid (bt.rs.length ≤ 50) := by rw [← hbt]; exact (HOF.out.ok _ (List.getElem_mem hil)).nums.few
      have HIL := Lib.hid hil
      clear hz hgq hqa hqs hqt hbt
      have hal := (Chg.refl Nil wr).alloc (.cells #[.int .i64 (qa : Nat), .int .i64 (qs : Nat), .int .i64 bt.base, .int .i64 bt.en, .int .i64 qt] 94)
      have hbx := Box.new wr [.int .i64 (qa : Nat), .int .i64 (qs : Nat), .int .i64 bt.base, .int .i64 bt.en, .int .i64 qt] 94
      go_upto_region 4 with fail
      clear z0 z1 z2 z3 z4
      have hbx : Box (wr.alloc (.cells #[.int .i64 (qa : Nat), .int .i64 (qs : Nat), .int .i64 bt.base, .int .i64 bt.en, .int .i64 qt] 94)) wr.heap.size [.int .i64 (qa : Nat), .int .i64 (qs : Nat), .int .i64 bt.base, .int .i64 bt.en, .int .i64 qt] 94 := hbx
      have HC2 := Lib.hid (HC.out.trans hal (fun _ h => h.elim))
      clear hal
      generalize wr.alloc (.cells #[.int .i64 (qa : Nat), .int .i64 (qs : Nat), .int .i64 bt.base, .int .i64 bt.en, .int .i64 qt] 94) = w2 at *
      generalize wr.heap.size = gq at *
      have y4 := hbx.cell (j := 4) rfl
      have y2 := hbx.cell (j := 2) rfl
      clear hbx
      by_cases hqt : qt < t
      · have HA := Lib.hid (HNX.out (fun r hr => by have h1 := timeOf_ge bt.rs r hr; have h2 := HQT.out; omega))
        go_wp2_with fail
        go_roundw
        case rel => exact ⟨_, i + 1, rfl, HIL.out, by go_num, HA.out, HC2.out⟩
        case measure => exact meas_two HIL.out
      · go_wp2_with fail
        refine (HRD.out w2 HC2.out bt.base).mono ?_
        rintro e w3 ⟨u, rfl, hrd, hc3⟩
        rw [HONE.out] at hrd
        obtain ⟨ms, hown, hmap, hms, hnew⟩ := hrd
        obtain ⟨m, rfl⟩ : ∃ m, ms = [m] := by
          rcases ms with _ | ⟨m, _ | ⟨m2, r⟩⟩
          · simp at hmap
          · exact ⟨m, rfl⟩
          · simp at hmap
        obtain ⟨mb, ra, rc⟩ := m
        obtain rfl : mb = bt := by simpa using hmap
        have hrs := (hms _ (List.mem_singleton.2 rfl)).1
        have HC3 := Lib.hid (HC2.out.trans hc3 (fun _ h => h.elim))
        obtain ⟨ua, uc, hu, hle, hcl⟩ := hown.val
        obtain ⟨ux, hua, hux⟩ := hcl 0 (by simp)
        have u2 := hux 2 _ rfl
        subst hua
        subst hu
        have u2 : w3.cell? ⟨ux, 2, none⟩ = some (.slice ra mb.rs.length rc) := u2
        have HRS := Lib.hid hrs
        have h1u : ([⟨mb, ra, rc⟩] : List Bm).length = 1 := rfl
        rw [h1u]
        clear hown hmap hms hnew hrs hcl hux hle y2 y4 h1u hc3
        generalize hrr : mb.rs = rs at *
        have hfw : rs.length ≤ 50 := HFEW.out
        go_wp2_with fail
        clear u2
        go_loopw [39] (fun jv wr => ∃ (wq : World) (j : Nat), wq = wr ∧ j ≤ rs.length ∧ jv = .int .i64 j ∧ Hid (∀ r ∈ rs.take j, r.time < t) ∧ Chg Nil w3 wr) (fun jv _ => rs.length - (RowKit.intOf jv).toNat)
        case atStart => exact ⟨_, 0, rfl, by omega, rfl, fun r hr => (by simp at hr), Chg.refl _ _⟩
        case round =>
          obtain ⟨w4, j, rfl, hj, rfl, hnj, hc4⟩ := hrel
          have HC4 := Lib.hid hc4
          have HNJ : Hid _ := hnj
          clear hc4 hnj
          by_cases hjl : j < rs.length
          · have hjj : (j : Int) < (rs.length : Int) := by omega
            obtain ⟨rb, off, hra, hcell⟩ := HRS.out j hjl
            subst hra
            obtain ⟨q, hq⟩ : ∃ q, q = rs[j] := ⟨_, rfl⟩
            rw [← hq] at hcell
            have HF1 : Hid ((∀ r ∈ rs.take j, r.time < t) → t ≤ q.time → R = some q) := by rw [hq]; exact HFND.out j hjl
            have HN1 : Hid (q.time < t → ∀ r ∈ rs.take (j + 1), r.time < t) := by
              intro h r hr
              rw [List.take_succ_eq_append_getElem hjl] at hr
              rcases List.mem_append.1 hr with hr | hr
              · exact HNJ.out r hr
              · rw [List.mem_singleton.1 hr, ← hq]; exact h
            have HJL := Lib.hid hjl
            clear hq
            obtain ⟨qo, qt2, qk, qkey, qg, qv⟩ := q
            have z0 := HC4.out.cell (hcell 0 _ rfl) (fun h => h)
            have z1 := HC4.out.cell (hcell 1 _ rfl) (fun h => h)
            have z2 := HC4.out.cell (hcell 2 _ rfl) (fun h => h)
            have z3 := HC4.out.cell (hcell 3 _ rfl) (fun h => h)
            have z4 := HC4.out.cell (hcell 4 _ rfl) (fun h => h)
            have z5 := HC4.out.cell (hcell 5 _ rfl) (fun h => h)
            rw [Nat.add_zero] at z0
            clear hcell
            have hbr := Box.new w4 [.int .i64 qo, .int .i64 qt2, .bool qk, .string qkey, .bool qg, .string qv] 55
            have halr := (Chg.refl Nil w4).alloc (.cells #[.int .i64 qo, .int .i64 qt2, .bool qk, .string qkey, .bool qg, .string qv] 55)
            go_upto_region 11 with fail
            clear z0 z1 z2 z3 z4 z5
            have hbr : Box (w4.alloc (.cells #[.int .i64 qo, .int .i64 qt2, .bool qk, .string qkey, .bool qg, .string qv] 55)) w4.heap.size [.int .i64 qo, .int .i64 qt2, .bool qk, .string qkey, .bool qg, .string qv] 55 := hbr
            have HC5 := Lib.hid (HC4.out.trans halr (fun _ h => h.elim))
            generalize w4.alloc (.cells #[.int .i64 qo, .int .i64 qt2, .bool qk, .string qkey, .bool qg, .string qv] 55) = w5 at *
            generalize w4.heap.size = g5 at *
            have y0 := hbr.cell (j := 0) rfl
            have y1 := hbr.cell (j := 1) rfl
            clear hbr halr
            by_cases hqt2 : t ≤ qt2
            · have HRR := Lib.hid (HF1.out HNJ.out hqt2)
              go_wp2_with fail
              go_ret2
              rw [HRR.out]
              exact ⟨rfl, HC3.out.trans HC5.out (fun _ h => h.elim)⟩
            · have HA := Lib.hid (HN1.out (by show qt2 < t; omega))
              go_wp2_with fail
              go_roundw
              case rel => exact ⟨_, j + 1, rfl, HJL.out, by go_num, HA.out, HC5.out⟩
              case measure => exact meas_two HJL.out
          · have hjj : ¬ (j : Int) < (rs.length : Int) := by omega
            have HA : Hid (∀ b ∈ l.take (i + 1), ∀ r ∈ b.rs, r.time < t) := by
              refine HNX.out (fun r hr => HNJ.out r ?_)
              rw [show j = rs.length by omega, List.take_length]
              exact hr
            go_wp2_with fail
            go_roundw
            case rel => exact ⟨_, i + 1, rfl, HIL.out, by go_num, HA.out, HC3.out.trans HC4.out (fun _ h => h.elim)⟩
            case measure => exact meas_two HIL.out
    · have hii : ¬ (i : Int) < (l.length : Int) := by omega
      have HNONE : Hid (R = none) := by
        rw [show i = l.length by omega, List.take_length] at HNO
        unfold Hid
        rw [← HR.out]
        exact since_none HNO.out
      go_wp2_with fail
      go_ret2
      rw [HNONE.out]
      exact ⟨rfl, HC.out⟩
end Go.Proofs.YtmaomebnigcgeaaGreatDoor

/-
  A segment is rewritten. (Of the segments' seat.)
-/
set_option linter.unusedSimpArgs false
set_option linter.unusedVariables false
namespace Go.Proofs.YtmaomebnigcgeaaGreatDoor
open Go.RowKit Go.Maps

def dotnew : Nm := [46, 110, 101, 119]
theorem saway_any {B : Nat → Prop} {w : World} {p s : Nat} {S : Nat → Prop} {v : Value} {d : Dk} {g : Sg} (h : SgS B w p s S v d g) (hg : g.name.length ≤ 1000) (k : Nat) (hk : k ≠ 0) :
    Calls Tryz.prog 70 #[.pointer (some ⟨s, 0, none⟩), .iface 32 (.int .i64 (k : Nat))] w fun e w' => e = .returned (errD k) ∧ (∃ S', SgS B w' p s S' v (d.remove g.name).2 g) ∧ Chg (Off B) w w' := by
  have HOP := Lib.hid (sremove_any h hg)
  have HE := Lib.hid (errD_ne hk)
  clear h hg hk
  go_enter Tryz.func70, Tryz.ntmps70
  go_wp2_with fail
  refine HOP.out.mono ?_
  rintro e w1 ⟨rfl, h1, h2⟩
  have H1 := Lib.hid h1
  have H2 := Lib.hid h2
  clear h1 h2
  generalize errD (d.remove g.name).1 = ev
  go_wp2_with fail
  go_ret
  rw [HE.out]
  exact ⟨rfl, H1.out, H2.out⟩

/-- A file beside it is taken away that was left. -/
def rew0 (d : Dk) (nm : Nm) : Nat × Dk := if 0 ≤ d.size nm then d.remove nm else (0, d)
/-- It takes the name of the other. -/
def rew4 (d : Dk) (g gt : Sg) : Nat × Dk × Sg :=
  if (d.rename gt.name g.name).1 = 0 then (0, (d.rename gt.name g.name).2, { g with pls := gt.pls, size := gt.size }) else ((d.rename gt.name g.name).1, ((d.rename gt.name g.name).2.remove gt.name).2, g)
def rew3 (d : Dk) (g gt : Sg) : Nat × Dk × Sg :=
  if (d.sync gt.name).1 = 0 then rew4 (d.sync gt.name).2 g gt else ((d.sync gt.name).1, ((d.sync gt.name).2.remove gt.name).2, g)
def rew2 (d : Dk) (g gt : Sg) : List Bt → Nat × Dk × Sg
  | [] => rew3 d g gt
  | b :: l => if (addSg d gt b.base b.en b.rs).1 = 0 then rew2 (addSg d gt b.base b.en b.rs).2.1 g (addSg d gt b.base b.en b.rs).2.2 l else ((addSg d gt b.base b.en b.rs).1, ((addSg d gt b.base b.en b.rs).2.1.remove gt.name).2, g)
def rew1 (d : Dk) (g : Sg) (nm : Nm) (l : List Bt) : Nat × Dk × Sg :=
  if (d.make nm).1 = 0 then rew2 (d.make nm).2 g ⟨nm, g.base, [], 0⟩ l else ((d.make nm).1, (d.make nm).2, g)
def rewL (d : Dk) (g : Sg) (nm : Nm) (l : List Bt) : Nat × Dk × Sg :=
  if (rew0 d nm).1 = 0 then rew1 (rew0 d nm).2 g nm l else ((rew0 d nm).1, (rew0 d nm).2, g)
theorem addSg_more (d : Dk) (g : Sg) (base en : Int) (rs : List Rec) : (addSg d g base en rs).2.2.pls.length ≤ g.pls.length + 1 ∧ (addSg d g base en rs).2.2.size ≤ g.size + (encAll base en rs).length := by
  unfold addSg
  split
  · exact ⟨by show g.pls.length ≤ _; omega, by show g.size ≤ _; omega⟩
  · split
    · exact ⟨by show g.pls.length ≤ _; omega, by show g.size ≤ _; omega⟩
    · split
      · refine ⟨?_, Nat.le_refl _⟩
        show (g.pls ++ [_]).length ≤ _
        rw [List.length_append]
        exact Nat.le_refl _
      · exact ⟨by show g.pls.length ≤ _; omega, by show g.size ≤ _; omega⟩
theorem addSg_name (d : Dk) (g : Sg) (base en : Int) (rs : List Rec) : (addSg d g base en rs).2.2.name = g.name := by
  unfold addSg
  split
  · rfl
  · split
    · rfl
    · split <;> rfl

/-- Two segments on a disk: the one that is kept, the one that is written. -/
structure RwS (B : Nat → Prop) (w : World) (p s t : Nat) (S : Nat → Prop) (v vt : Value) (d : Dk) (g gt : Sg) : Prop where
  t : SgS (fun k => B k ∨ SHas s v k) w p t S vt d gt
  m : Sm w s p v g
  ml : ∀ k, SHas s v k → ¬ B k
theorem RwS.nil {B : Nat → Prop} {w w' : World} {p s t : Nat} {S : Nat → Prop} {v vt : Value} {d : Dk} {g gt : Sg} (h : RwS B w p s t S v vt d g gt) (hc : Chg Nil w w') : RwS B w' p s t S v vt d g gt := ⟨h.t.nil hc, h.m.chg hc (fun _ _ h => h), h.ml⟩
theorem RwS.op {B : Nat → Prop} {w w' : World} {p s t : Nat} {S S' : Nat → Prop} {v vt vt' : Value} {d d' : Dk} {g gt gt' : Sg} (h : RwS B w p s t S v vt d g gt) (h2 : SgS (fun k => B k ∨ SHas s v k) w' p t S' vt' d' gt') (hc : Chg (Off (fun k => B k ∨ SHas s v k)) w w') : RwS B w' p s t S' v vt' d' g gt' :=
  ⟨h2, h.m.chg hc (fun k hk hn => hn (.inr hk)), h.ml⟩
/-- The one that is kept stays. -/
theorem RwS.back {B : Nat → Prop} {w : World} {p s t : Nat} {S : Nat → Prop} {v vt : Value} {d : Dk} {g gt : Sg} (h : RwS B w p s t S v vt d g gt) : SgS B w p s S v d g :=
  ⟨fun k hk => h.t.lo k (.inl hk), h.t.a, h.m, fun k hk hs => (h.t.sl k hs).1 (.inr hk), fun k hs => ⟨fun hb => (h.t.sl k hs).1 (.inl hb), (h.t.sl k hs).2⟩, h.ml⟩
theorem RwS.off {B : Nat → Prop} {s : Nat} {v : Value} {w w' : World} (hc : Chg (Off (fun k => B k ∨ SHas s v k)) w w') : Chg (Off B) w w' := hc.weak (fun k hk => .inl fun hb => hk (.inl hb))
/-- A disk's operation beside both. -/
theorem RwS.disk {B : Nat → Prop} {w w' : World} {p s t : Nat} {S : Nat → Prop} {v vt : Value} {d d' : Dk} {g gt : Sg} (h : RwS B w p s t S v vt d g gt) (ha : DiskAt w' p (Gr S w w') d') (hc : Chg S w w') : RwS B w' p s t (Gr S w w') v vt d' g gt :=
  h.op (h.t.disk ha hc) (hc.weak (fun k hk => .inl (h.t.sl k hk).1))

/-- Between the looks and behind a disk's operation beside both. -/
def RopF (B : Nat → Prop) (p s t : Nat) (S : Nat → Prop) (v vt : Value) (d : Dk) (g gt : Sg) (r : Nat × Dk) : List Value → World → Prop
  | [], w => RwS B w p s t S v vt d g gt
  | _ :: _, w => ∃ S', RwS B w p s t S' v vt r.2 g gt
theorem RopF.nil {B : Nat → Prop} {p s t : Nat} {S : Nat → Prop} {v vt : Value} {d : Dk} {g gt : Sg} {r : Nat × Dk} {w w' : World} (hc : Chg Nil w w') : ∀ vs, RopF B p s t S v vt d g gt r vs w → RopF B p s t S v vt d g gt r vs w'
  | [], h => RwS.nil h hc
  | _ :: _, ⟨S', h⟩ => ⟨S', h.nil hc⟩
/-- The one that is kept takes the other's places. -/
theorem RwS.taken {B : Nat → Prop} {w w' : World} {p s t : Nat} {S : Nat → Prop} {v vt : Value} {d : Dk} {g gt : Sg} (h : RwS B w p s t S v vt d g gt) (hc : Chg (fun k => k = s) w w')
    (hb : Box w' s [.pointer (some ⟨p, 0, none⟩), .string ⟨g.name.toArray⟩, .int .i64 g.base, vt, .int .i64 (gt.size : Nat)] 80) : SgS B w' p s S vt d { g with pls := gt.pls, size := gt.size } := by
  have hz := hc.size
  have hns : ¬ S s := fun hs => (h.t.sl s hs).1 (.inr (.inl rfl))
  have hnv : ∀ k, vt.ownBlock = some k → ¬ k = s := fun k hk e => h.t.ml k (.inr hk) (.inr (.inl e))
  refine ⟨fun k hk => Nat.lt_of_lt_of_le (h.t.lo k (.inl hk)) hz, h.t.a.chg hc (fun k hk e => hns (e ▸ hk)), ⟨hb, h.t.m.o.chg hc hnv⟩, ?_, ?_, ?_⟩
  · rintro k (rfl | hk)
    · exact hns
    · exact h.t.ap k (.inr hk)
  · exact fun k hs => ⟨fun hb => (h.t.sl k hs).1 (.inl hb), Nat.lt_of_lt_of_le (h.t.sl k hs).2 hz⟩
  · rintro k (rfl | hk)
    · exact h.ml k (.inl rfl)
    · exact fun hb => h.t.ml k (.inr hk) (.inl hb)
/-- The block of the one that is kept while it takes the other's places. -/
def TkF (s : Nat) (c0 c1 c2 v n v' n' : Value) : List Value → World → Prop
  | [], w => Box w s [c0, c1, c2, v, n] 80
  | [_], w => Box w s [c0, c1, c2, v', n] 80
  | _ :: _ :: _, w => Box w s [c0, c1, c2, v', n'] 80
/-- Batches in memory: where they lie, and their records. -/
structure BmsAt (w : World) (a : Option Addr) (ms : List Bm) : Prop where
  c : ∀ i (h : i < ms.length), ∃ b off, a = some ⟨b, off, none⟩ ∧ ∀ j u, (ms[i].c3)[j]? = some u → w.cell? ⟨b, off + i * 3 + j, none⟩ = some u
  r : ∀ m ∈ ms, RecsAt w m.ra m.b.rs
/-- They lie in blocks that are kept. -/
structure BmsIn (B : Nat → Prop) (a : Option Addr) (ms : List Bm) : Prop where
  c : ms ≠ [] → ∀ x, a = some x → B x.block
  r : ∀ m ∈ ms, m.b.rs ≠ [] → ∀ x, m.ra = some x → B x.block
theorem BmsAt.chg {B : Nat → Prop} {w w' : World} {a : Option Addr} {ms : List Bm} (h : BmsAt w a ms) (hi : BmsIn B a ms) (hc : Chg (Off B) w w') : BmsAt w' a ms := by
  refine ⟨fun i hl => ?_, fun m hm => (h.r m hm).chg' hc (fun h0 x hx hn => hn (hi.r m hm h0 x hx))⟩
  obtain ⟨b, off, ha, hcell⟩ := h.c i hl
  have hne : ms ≠ [] := by intro e; rw [e] at hl; simp at hl
  exact ⟨b, off, ha, fun j u hj => hc.cell (hcell j u hj) (fun hn => hn (show B b from hi.c hne ⟨b, off, none⟩ ha))⟩

set_option maxHeartbeats 0 in
set_option maxRecDepth 20000 in
theorem srewrite_any {B : Nat → Prop} {w : World} {p s : Nat} {S : Nat → Prop} {v : Value} {d : Dk} {g : Sg} (h : SgS B w p s S v d g) (hg : g.name.length ≤ 900) (a : Option Addr) (c : Nat) (ms : List Bm) (hms : BmsAt w a ms) (hin : BmsIn B a ms) (hok : ∀ m ∈ ms, m.b.Ok) (hl : ms.length ≤ 99999) :
    Calls Tryz.prog 48 #[.pointer (some ⟨s, 0, none⟩), .slice a ms.length c] w fun e w' => e = .returned (errD (rewL d g (g.name ++ dotnew) (ms.map Bm.b)).1) ∧ (∃ S' v', SgS B w' p s S' v' (rewL d g (g.name ++ dotnew) (ms.map Bm.b)).2.1 (rewL d g (g.name ++ dotnew) (ms.map Bm.b)).2.2) ∧ Chg (Off B) w w' := by
  obtain ⟨R, hR⟩ : ∃ R, rewL d g (g.name ++ dotnew) (ms.map Bm.b) = R := ⟨_, rfl⟩
  rw [hR]
  have HR := Lib.hid hR
  have HS := Lib.hid h
  have HG := Lib.hid hg
  have HMS := Lib.hid hms
  have HIN := Lib.hid hin
  have HOK := Lib.hid hok
  have c0 := h.m.c.cell (j := 0) rfl
  have c1 := h.m.c.cell (j := 1) rfl
  have c2 := h.m.c.cell (j := 2) rfl
  obtain ⟨nm, hnm⟩ : ∃ nm, g.name ++ dotnew = nm := ⟨_, rfl⟩
  rw [hnm] at HR
  have HNM := Lib.hid hnm
  have HNL : Hid (nm.length ≤ 904) := by rw [← hnm, List.length_append]; show _ + 4 ≤ 904; omega
  have HNS : Hid ((ByteArray.mk nm.toArray).size ≤ 4611686018427387904) := by show nm.toArray.size ≤ 4611686018427387904; simp; have := HNL.out; omega
  have hcat : ByteArray.mk g.name.toArray ++ ByteArray.mk #[46, 110, 101, 119] = ByteArray.mk nm.toArray := ba_eq (by rw [ba_app, ← hnm]; rfl)
  have HCAT := Lib.hid hcat
  have hov : ¬ 9223372036854775807 < g.name.length + 4 := by omega
  have HLM := Lib.hid hl
  clear h hg hms hin hok hR hnm hcat hl
  go_enter Tryz.func48, Tryz.ntmps48
  go_upto_region 1 with fail
  refine wp_region_mono _ (Chg Nil) (by kernel_rfl) (fun _ _ _ h k => h.trans k (fun _ h => h.elim)) [[], [0], [1], [2], [], [4], [5], [6], [7], [], [9], [10], [11], [3, 8, 12], [13], [14]] rfl (by kernel_rfl) (Chg.refl _ _).drew ?_
  iterate 3 ((with_reducible apply Walk.eq); case h => (intro w2 hw2 N hN; simp only [depsOf, List.filterMap_nil, List.filterMap_cons, List.getElem?_toArray, List.getElem?_cons_zero, List.getElem?_cons_succ, Option.bind_some, List.nil_append, List.cons_append, Ob]; go_simp; (try go_bits); with_reducible exact hN _ (Chg.refl _ _)))
  ((with_reducible apply Walk.eq); case h => (intro w2 hw2 N hN; have hq := hw2.cell c0 (fun h => h); simp only [depsOf, List.filterMap_nil, List.filterMap_cons, List.getElem?_toArray, List.getElem?_cons_zero, List.getElem?_cons_succ, Option.bind_some, List.nil_append, List.cons_append, Ob]; go_simp; with_reducible exact hN _ (Chg.refl _ _)))
  iterate 3 ((with_reducible apply Walk.eq); case h => (intro w2 hw2 N hN; simp only [depsOf, List.filterMap_nil, List.filterMap_cons, List.getElem?_toArray, List.getElem?_cons_zero, List.getElem?_cons_succ, Option.bind_some, List.nil_append, List.cons_append, Ob]; go_simp; (try go_bits); with_reducible exact hN _ (Chg.refl _ _)))
  ((with_reducible apply Walk.eq); case h => (intro w2 hw2 N hN; have hq := hw2.cell c1 (fun h => h); simp only [depsOf, List.filterMap_nil, List.filterMap_cons, List.getElem?_toArray, List.getElem?_cons_zero, List.getElem?_cons_succ, Option.bind_some, List.nil_append, List.cons_append, Ob]; go_simp; with_reducible exact hN _ (Chg.refl _ _)))
  (with_reducible apply Walk.eq (c := .string ⟨nm.toArray⟩)); case h =>
    intro w2 hw2 N hN
    simp only [depsOf, List.filterMap_nil, List.filterMap_cons, List.getElem?_toArray, List.getElem?_cons_zero, List.getElem?_cons_succ, Option.bind_some, List.nil_append, List.cons_append, Ob]
    go_simp
    rw [HCAT.out]
    exact hN _ (Chg.refl _ _)
  iterate 3 ((with_reducible apply Walk.eq); case h => (intro w2 hw2 N hN; simp only [depsOf, List.filterMap_nil, List.filterMap_cons, List.getElem?_toArray, List.getElem?_cons_zero, List.getElem?_cons_succ, Option.bind_some, List.nil_append, List.cons_append, Ob]; go_simp; (try go_bits); with_reducible exact hN _ (Chg.refl _ _)))
  ((with_reducible apply Walk.eq); case h => (intro w2 hw2 N hN; have hq := hw2.cell c2 (fun h => h); simp only [depsOf, List.filterMap_nil, List.filterMap_cons, List.getElem?_toArray, List.getElem?_cons_zero, List.getElem?_cons_succ, Option.bind_some, List.nil_append, List.cons_append, Ob]; go_simp; with_reducible exact hN _ (Chg.refl _ _)))
  ((with_reducible apply Walk.eq); case h => (intro w2 hw2 N hN; simp only [depsOf, List.filterMap_nil, List.filterMap_cons, List.getElem?_toArray, List.getElem?_cons_zero, List.getElem?_cons_succ, Option.bind_some, List.nil_append, List.cons_append, Ob]; go_simp; (try go_bits); with_reducible exact hN _ (Chg.refl _ _)))
  refine Walk.sat (fun v w' => ∃ b, v = .pointer (some ⟨b, 0, none⟩) ∧ w.heap.size ≤ b ∧ Box w' b [.pointer (some ⟨p, 0, none⟩), .string ⟨nm.toArray⟩, .int .i64 g.base, .slice none 0 0, .int .i64 0] 80) ?_ rfl ?_ ?_
  · rintro v w6 w7 ⟨b, rfl, hp, hbx⟩ hc
    exact ⟨b, rfl, hp, hbx.chg hc (fun h => h)⟩
  · intro w6 hw6 N hN
    simp only [depsOf, List.filterMap_nil, List.filterMap_cons, List.getElem?_toArray, List.getElem?_cons_zero, List.getElem?_cons_succ, Option.bind_some, List.nil_append, List.cons_append, Ob]
    go_simp
    exact hN _ _ ⟨w6.heap.size, rfl, hw6.size, Box.new w6 _ _⟩ ((Chg.refl _ _).alloc _)
  refine Walk.sat (fun v w' => ∃ b, v = .pointer (some ⟨b, 0, none⟩) ∧ w.heap.size ≤ b ∧ Box w' b [.pointer (some ⟨p, 0, none⟩), .string ⟨nm.toArray⟩, .int .i64 g.base, .slice none 0 0, .int .i64 0] 80) ?_ rfl ?_ ?_
  · rintro v w6 w7 ⟨b, rfl, hp, hbx⟩ hc
    exact ⟨b, rfl, hp, hbx.chg hc (fun h => h)⟩
  · intro w6 hw6 N hN
    simp only [depsOf, List.filterMap_nil, List.filterMap_cons, List.getElem?_toArray, List.getElem?_cons_zero, List.getElem?_cons_succ, Option.bind_some, List.nil_append, List.cons_append, Ob]
    intro v hv
    go_simp
    exact hN _ _ hv (Chg.refl _ _)
  intro w6 hw6
  simp only [List.nil_append, List.cons_append, Fin]
  intro v1 _ v2 h2
  refine Exists.elim h2 fun t h2 => ?_
  have e2 := h2.1
  have ht := h2.2.1
  have hbx := h2.2.2
  clear h2
  subst e2
  have h0 : DsS (fun k => B k ∨ SHas s v k) w p S d := ⟨fun k hk => hk.elim (HS.out.lo k) (HS.out.m.lt k), HS.out.a, fun k hk => ⟨fun h => h.elim (HS.out.sl k hk).1 (fun h => HS.out.ap k h hk), (HS.out.sl k hk).2⟩⟩
  have HRW : Hid (RwS B w6 p s t S v (.slice none 0 0) d g ⟨nm, g.base, [], 0⟩) := by
    refine ⟨h0.seg hw6 ⟨hbx, OwnP.nil _⟩ ?_, HS.out.m.chg hw6 (fun _ _ h => h), HS.out.ml⟩
    rintro k (rfl | hk)
    · exact ht
    · simp [Value.ownBlock] at hk
  have HC6 : Hid (Chg (Off B) w w6) := hw6.weak (fun _ h => h.elim)
  have c0 := hw6.cell c0 (fun h => h)
  have t1 := hbx.cell (j := 1) rfl
  clear hw6 ht hbx h0 c1 c2 hov
  obtain ⟨zz, hzz⟩ : ∃ zz, d.size nm = zz := ⟨_, rfl⟩
  have HSZ : Hid (∀ w', Chg Nil w6 w' → Calls Tryz.prog 23 #[.pointer (some ⟨p, 0, none⟩), .string ⟨nm.toArray⟩] w' fun e w'' => e = .returned (.int .i64 zz) ∧ w' = w'') := by
    intro w' hw'
    have h1 := size_any (HRW.out.t.a.chg hw' (fun _ _ h => h)) ⟨nm.toArray⟩ HNS.out
    have h2 : d.size (ByteArray.mk nm.toArray).data.toList = zz := hzz
    rw [h2] at h1
    exact h1
  have HZZ := Lib.hid hzz
  clear hzz
  go_simp
  go_upto_region 2 with fail
  refine wp_region_mono _ (Chg Nil) (by kernel_rfl) (fun _ _ _ h k => h.trans k (fun _ h => h.elim)) [[], [0], [1], [2], [], [4], [5], [6], [3, 7], [8]] rfl (by kernel_rfl) (Chg.refl _ _).drew ?_
  iterate 3 ((with_reducible apply Walk.eq); case h => (intro w2 hw2 N hN; simp only [depsOf, List.filterMap_nil, List.filterMap_cons, List.getElem?_toArray, List.getElem?_cons_zero, List.getElem?_cons_succ, Option.bind_some, List.nil_append, List.cons_append, Ob]; go_simp; (try go_bits); with_reducible exact hN _ (Chg.refl _ _)))
  ((with_reducible apply Walk.eq); case h => (intro w2 hw2 N hN; have hq := hw2.cell c0 (fun h => h); simp only [depsOf, List.filterMap_nil, List.filterMap_cons, List.getElem?_toArray, List.getElem?_cons_zero, List.getElem?_cons_succ, Option.bind_some, List.nil_append, List.cons_append, Ob]; go_simp; with_reducible exact hN _ (Chg.refl _ _)))
  iterate 3 ((with_reducible apply Walk.eq); case h => (intro w2 hw2 N hN; simp only [depsOf, List.filterMap_nil, List.filterMap_cons, List.getElem?_toArray, List.getElem?_cons_zero, List.getElem?_cons_succ, Option.bind_some, List.nil_append, List.cons_append, Ob]; go_simp; (try go_bits); with_reducible exact hN _ (Chg.refl _ _)))
  ((with_reducible apply Walk.eq); case h => (intro w2 hw2 N hN; have hq := hw2.cell t1 (fun h => h); simp only [depsOf, List.filterMap_nil, List.filterMap_cons, List.getElem?_toArray, List.getElem?_cons_zero, List.getElem?_cons_succ, Option.bind_some, List.nil_append, List.cons_append, Ob]; go_simp; with_reducible exact hN _ (Chg.refl _ _)))
  (with_reducible apply Walk.eq); case h =>
    intro w2 hw2 N hN
    simp only [depsOf, List.filterMap_nil, List.filterMap_cons, List.getElem?_toArray, List.getElem?_cons_zero, List.getElem?_cons_succ, Option.bind_some, List.nil_append, List.cons_append, Ob]
    go_simp
    refine (HSZ.out w2 hw2).mono ?_
    rintro e w4 ⟨rfl, h4⟩
    obtain rfl := h4.symm
    exact ⟨_, rfl, hN _ (Chg.refl _ _)⟩
  (with_reducible apply Walk.eq (c := .bool (decide (0 ≤ zz)))); case h =>
    intro w2 hw2 N hN
    simp only [depsOf, List.filterMap_nil, List.filterMap_cons, List.getElem?_toArray, List.getElem?_cons_zero, List.getElem?_cons_succ, Option.bind_some, List.nil_append, List.cons_append, Ob]
    go_simp
    exact hN _ (Chg.refl _ _)
  intro w7 hw7
  simp only [List.nil_append, List.cons_append, Fin]
  have HRW7 := Lib.hid (HRW.out.nil hw7)
  have HC7 := Lib.hid (HC6.out.trans hw7 (fun _ h => h.elim))
  have c0 := hw7.cell c0 (fun h => h)
  have t1 := hw7.cell t1 (fun h => h)
  clear hw7
  go_simp
  go_upto_if 37 with fail
  go_cut [6] (fun ev wy => ∃ (S1 : Nat → Prop) (d1 : Dk), RwS B wy p s t S1 v (.slice none 0 0) d1 g ⟨nm, g.base, [], 0⟩ ∧ rew1 d1 g nm (ms.map Bm.b) = R ∧ Chg (Off B) w wy)
  case first =>
    by_cases hz : 0 ≤ zz
    · have hd : decide (0 ≤ zz) = true := decide_eq_true hz
      rw [hd]
      have HZ := Lib.hid hz
      clear hz hd
      obtain ⟨Q, hQ⟩ : ∃ Q, d.remove nm = Q := ⟨_, rfl⟩
      have HQ := Lib.hid hQ
      have HOP := Lib.hid (fun (w' : World) (h : RwS B w' p s t S v (.slice none 0 0) d g ⟨nm, g.base, [], 0⟩) => remove_any h.t.a ⟨nm.toArray⟩ HNS.out)
      clear hQ
      go_upto_region 3 with fail
      refine Ch.wp_region_chain _ (Chg (S)) [8] (RopF B p s t S v (.slice none 0 0) d g ⟨nm, g.base, [], 0⟩ Q) (by kernel_rfl) (fun _ => Chg.refl _ _) (fun _ _ _ h k => h.trans k (fun _ h => .inl h)) [[], [0], [1], [2], [], [4], [5], [6], [3, 7], [8]] rfl (by kernel_rfl) (by kernel_rfl) (Chg.refl _ _).drew ?_ ?_
      · exact HRW7.out.nil (Chg.refl Nil _).drew
      iterate 3 ((with_reducible apply Ch.Walk.eq); (case hd => rfl); (case hi => rfl); case h => (intro w2 hw2 N hN; simp only [Ch.depsOf, List.filterMap_nil, List.filterMap_cons, List.getElem?_toArray, List.getElem?_cons_zero, List.getElem?_cons_succ, Option.bind_some, List.nil_append, List.cons_append, Ch.Ob]; go_simp; (try go_bits); with_reducible exact hN _ (Chg.refl _ _) (fun _ h => h)))
      ((with_reducible apply Ch.Walk.eq); (case hd => rfl); (case hi => rfl); case h => (intro w2 hw2 N hN; (have hq := hw2.cell c0 (fun h => (HRW7.out.t.sl s h).1 (.inr (.inl rfl)))); simp only [Ch.depsOf, List.filterMap_nil, List.filterMap_cons, List.getElem?_toArray, List.getElem?_cons_zero, List.getElem?_cons_succ, Option.bind_some, List.nil_append, List.cons_append, Ch.Ob]; go_simp; (try go_bits); with_reducible exact hN _ (Chg.refl _ _) (fun _ h => h)))
      iterate 3 ((with_reducible apply Ch.Walk.eq); (case hd => rfl); (case hi => rfl); case h => (intro w2 hw2 N hN; simp only [Ch.depsOf, List.filterMap_nil, List.filterMap_cons, List.getElem?_toArray, List.getElem?_cons_zero, List.getElem?_cons_succ, Option.bind_some, List.nil_append, List.cons_append, Ch.Ob]; go_simp; (try go_bits); with_reducible exact hN _ (Chg.refl _ _) (fun _ h => h)))
      ((with_reducible apply Ch.Walk.eq); (case hd => rfl); (case hi => rfl); case h => (intro w2 hw2 N hN; (have hq := hw2.cell t1 (HRW7.out.t.ap t (.inl rfl))); simp only [Ch.depsOf, List.filterMap_nil, List.filterMap_cons, List.getElem?_toArray, List.getElem?_cons_zero, List.getElem?_cons_succ, Option.bind_some, List.nil_append, List.cons_append, Ch.Ob]; go_simp; (try go_bits); with_reducible exact hN _ (Chg.refl _ _) (fun _ h => h)))
      refine Ch.Walk.chainE 0 (c := errD Q.1) rfl rfl ?_ ?_
      · intro w8 hw8 vs hvs hF N hN
        obtain rfl := List.eq_nil_of_length_eq_zero hvs
        have F3 : RwS B w8 p s t S v (.slice none 0 0) d g ⟨nm, g.base, [], 0⟩ := hF
        have HO6 := Lib.hid (HOP.out w8 F3)
        have HF3 := Lib.hid F3
        clear F3 hF
        simp only [Ch.depsOf, List.filterMap_nil, List.filterMap_cons, List.getElem?_toArray, List.getElem?_cons_zero, List.getElem?_cons_succ, Option.bind_some, List.nil_append, List.cons_append, Ch.Ob, Ch.chained_get, Option.map_some, List.idxOf?, List.findIdx?, List.findIdx?.go, Nat.reduceBEq, List.getD_cons_zero, List.getD_cons_succ, Nat.reduceAdd, if_true, if_false, Bool.false_eq_true]
        go_simp
        refine HO6.out.mono ?_
        rintro e w9 ⟨rfl, h2, h3⟩
        have h2 : DiskAt w9 p (Gr S w8 w9) (d.remove nm).2 := h2
        have he : errD (d.remove (ByteArray.mk nm.toArray).data.toList).1 = errD Q.1 := by show errD (d.remove nm).1 = _; rw [HQ.out]
        rw [HQ.out] at h2
        rw [he]
        exact ⟨_, rfl, hN _ h3 ⟨_, HF3.out.disk h2 h3⟩⟩
      ((with_reducible apply Ch.Walk.eq); (case hd => rfl); (case hi => rfl); case h => (intro w2 hw2 N hN; simp only [Ch.depsOf, List.filterMap_nil, List.filterMap_cons, List.getElem?_toArray, List.getElem?_cons_zero, List.getElem?_cons_succ, Option.bind_some, List.nil_append, List.cons_append, Ch.Ob]; go_simp; (try go_bits); with_reducible exact hN _ (Chg.refl _ _) (fun _ h => h)))
      intro w8 hw8
      simp only [List.nil_append, List.cons_append, Ch.Fin, List.map_cons, List.map_nil, List.getD_cons_zero, List.getD_cons_succ]
      intro hF
      have HF : Hid (∃ S', RwS B w8 p s t S' v (.slice none 0 0) Q.2 g ⟨nm, g.base, [], 0⟩) := hF
      have HW8 : Hid (Chg (Off (fun k => B k ∨ SHas s v k)) w7 w8) := hw8.weak (fun k hk => .inl (HRW7.out.t.sl k hk).1)
      have HC8 := Lib.hid (HC7.out.trans (RwS.off HW8.out) (fun _ h => .inl h))
      clear hF hw8 HOP
      by_cases hq : Q.1 = 0
      · have hev : errD Q.1 = .nilIface := by rw [hq]; rfl
        rw [hev]
        have HQ0 := Lib.hid hq
        clear hev hq
        go_simp
        have HR0 : Hid (rew1 Q.2 g nm (ms.map Bm.b) = R) := by
          have h1 := HR.out
          unfold rewL rew0 at h1
          rw [HZZ.out, if_pos HZ.out, HQ.out, if_pos HQ0.out] at h1
          exact h1
        go_wp2_with fail
        go_meet
        case rel =>
          obtain ⟨S9, h9⟩ := HF.out
          exact ⟨S9, _, h9, HR0.out, HC8.out⟩
      · have hev : errD Q.1 = .iface 32 (.int .i64 (Q.1 : Nat)) := errD_ne hq
        rw [hev]
        have HQ0 := Lib.hid hq
        clear hev hq
        go_simp
        have HR0 : Hid (R = (Q.1, Q.2, g)) := by
          have h1 := HR.out
          unfold rewL rew0 at h1
          rw [HZZ.out, if_pos HZ.out, HQ.out, if_neg HQ0.out] at h1
          exact h1.symm
        go_wp2_with fail
        go_ret
        obtain ⟨S9, h9⟩ := HF.out
        rw [HR0.out]
        exact ⟨congrArg Ending.returned (errD_ne HQ0.out).symm, ⟨S9, _, h9.back⟩, HC8.out⟩
    · have hd : decide (0 ≤ zz) = false := decide_eq_false hz
      rw [hd]
      have HR0 : Hid (rew1 d g nm (ms.map Bm.b) = R) := by
        have h1 := HR.out
        unfold rewL rew0 at h1
        rw [HZZ.out, if_neg hz] at h1
        exact h1
      clear hz hd
      go_wp2_with fail
      go_meet
      case rel => exact ⟨_, _, HRW7.out, HR0.out, HC7.out⟩
  obtain ⟨S1, d1, hrw1, hr1, hc1⟩ := hcut
  have HRW9 := Lib.hid hrw1
  have HR9 := Lib.hid hr1
  have HC9 := Lib.hid hc1
  have c0 := hrw1.m.c.cell (j := 0) rfl
  have t1 := hrw1.t.m.c.cell (j := 1) rfl
  clear hrw1 hr1 hc1 HRW7 HC7
  obtain ⟨Q, hQ⟩ : ∃ Q, d1.make nm = Q := ⟨_, rfl⟩
  have HQ := Lib.hid hQ
  have HOP := Lib.hid (fun (w' : World) (h : RwS B w' p s t S1 v (.slice none 0 0) d1 g ⟨nm, g.base, [], 0⟩) => make_any h.t.a ⟨nm.toArray⟩ HNS.out)
  clear hQ
  go_upto_region 6 with fail
  refine Ch.wp_region_chain _ (Chg (S1)) [8] (RopF B p s t S1 v (.slice none 0 0) d1 g ⟨nm, g.base, [], 0⟩ Q) (by kernel_rfl) (fun _ => Chg.refl _ _) (fun _ _ _ h k => h.trans k (fun _ h => .inl h)) [[], [0], [1], [2], [], [4], [5], [6], [3, 7], [8]] rfl (by kernel_rfl) (by kernel_rfl) (Chg.refl _ _).drew ?_ ?_
  · exact HRW9.out.nil (Chg.refl Nil _).drew
  iterate 3 ((with_reducible apply Ch.Walk.eq); (case hd => rfl); (case hi => rfl); case h => (intro w2 hw2 N hN; simp only [Ch.depsOf, List.filterMap_nil, List.filterMap_cons, List.getElem?_toArray, List.getElem?_cons_zero, List.getElem?_cons_succ, Option.bind_some, List.nil_append, List.cons_append, Ch.Ob]; go_simp; (try go_bits); with_reducible exact hN _ (Chg.refl _ _) (fun _ h => h)))
  ((with_reducible apply Ch.Walk.eq); (case hd => rfl); (case hi => rfl); case h => (intro w2 hw2 N hN; (have hq := hw2.cell c0 (fun h => (HRW9.out.t.sl s h).1 (.inr (.inl rfl)))); simp only [Ch.depsOf, List.filterMap_nil, List.filterMap_cons, List.getElem?_toArray, List.getElem?_cons_zero, List.getElem?_cons_succ, Option.bind_some, List.nil_append, List.cons_append, Ch.Ob]; go_simp; (try go_bits); with_reducible exact hN _ (Chg.refl _ _) (fun _ h => h)))
  iterate 3 ((with_reducible apply Ch.Walk.eq); (case hd => rfl); (case hi => rfl); case h => (intro w2 hw2 N hN; simp only [Ch.depsOf, List.filterMap_nil, List.filterMap_cons, List.getElem?_toArray, List.getElem?_cons_zero, List.getElem?_cons_succ, Option.bind_some, List.nil_append, List.cons_append, Ch.Ob]; go_simp; (try go_bits); with_reducible exact hN _ (Chg.refl _ _) (fun _ h => h)))
  ((with_reducible apply Ch.Walk.eq); (case hd => rfl); (case hi => rfl); case h => (intro w2 hw2 N hN; (have hq := hw2.cell t1 (HRW9.out.t.ap t (.inl rfl))); simp only [Ch.depsOf, List.filterMap_nil, List.filterMap_cons, List.getElem?_toArray, List.getElem?_cons_zero, List.getElem?_cons_succ, Option.bind_some, List.nil_append, List.cons_append, Ch.Ob]; go_simp; (try go_bits); with_reducible exact hN _ (Chg.refl _ _) (fun _ h => h)))
  refine Ch.Walk.chainE 0 (c := errD Q.1) rfl rfl ?_ ?_
  · intro w8 hw8 vs hvs hF N hN
    obtain rfl := List.eq_nil_of_length_eq_zero hvs
    have F3 : RwS B w8 p s t S1 v (.slice none 0 0) d1 g ⟨nm, g.base, [], 0⟩ := hF
    have HO6 := Lib.hid (HOP.out w8 F3)
    have HF3 := Lib.hid F3
    clear F3 hF
    simp only [Ch.depsOf, List.filterMap_nil, List.filterMap_cons, List.getElem?_toArray, List.getElem?_cons_zero, List.getElem?_cons_succ, Option.bind_some, List.nil_append, List.cons_append, Ch.Ob, Ch.chained_get, Option.map_some, List.idxOf?, List.findIdx?, List.findIdx?.go, Nat.reduceBEq, List.getD_cons_zero, List.getD_cons_succ, Nat.reduceAdd, if_true, if_false, Bool.false_eq_true]
    go_simp
    refine HO6.out.mono ?_
    rintro e w9 ⟨rfl, h2, h3⟩
    have h2 : DiskAt w9 p (Gr S1 w8 w9) (d1.make nm).2 := h2
    have he : errD (d1.make (ByteArray.mk nm.toArray).data.toList).1 = errD Q.1 := by show errD (d1.make nm).1 = _; rw [HQ.out]
    rw [HQ.out] at h2
    rw [he]
    exact ⟨_, rfl, hN _ h3 ⟨_, HF3.out.disk h2 h3⟩⟩
  ((with_reducible apply Ch.Walk.eq); (case hd => rfl); (case hi => rfl); case h => (intro w2 hw2 N hN; simp only [Ch.depsOf, List.filterMap_nil, List.filterMap_cons, List.getElem?_toArray, List.getElem?_cons_zero, List.getElem?_cons_succ, Option.bind_some, List.nil_append, List.cons_append, Ch.Ob]; go_simp; (try go_bits); with_reducible exact hN _ (Chg.refl _ _) (fun _ h => h)))
  intro w8 hw8
  simp only [List.nil_append, List.cons_append, Ch.Fin, List.map_cons, List.map_nil, List.getD_cons_zero, List.getD_cons_succ]
  intro hF
  have HF : Hid (∃ S', RwS B w8 p s t S' v (.slice none 0 0) Q.2 g ⟨nm, g.base, [], 0⟩) := hF
  have HW8 : Hid (Chg (Off (fun k => B k ∨ SHas s v k)) wc w8) := hw8.weak (fun k hk => .inl (HRW9.out.t.sl k hk).1)
  have HC8 := Lib.hid (HC9.out.trans (RwS.off HW8.out) (fun _ h => .inl h))
  clear hF hw8 HOP
  by_cases hq : Q.1 = 0
  · have hev : errD Q.1 = .nilIface := by rw [hq]; rfl
    rw [hev]
    have HQ0 := Lib.hid hq
    clear hev hq
    go_simp
    have HR0 : Hid (rew2 Q.2 g ⟨nm, g.base, [], 0⟩ (ms.map Bm.b) = R) := by
      have h1 := HR9.out
      unfold rew1 at h1
      rw [HQ.out, if_pos HQ0.out] at h1
      exact h1
    have hlm : ms.length ≤ 99999 := HLM.out
    clear c0 t1
    go_wp2_with fail
    go_loopw [64] (fun iv wr => ∃ (wq : World) (i : Nat) (S2 : Nat → Prop) (v2 : Value) (d2 : Dk) (g2 : Sg), wq = wr ∧ i ≤ ms.length ∧ iv = .int .i64 i ∧ RwS B wr p s t S2 v v2 d2 g g2 ∧ Hid (g2.name = nm ∧ rew2 d2 g g2 ((ms.drop i).map Bm.b) = R ∧ g2.pls.length ≤ i ∧ g2.size ≤ 6000 * i) ∧ Chg (Off B) w wr) (fun iv _ => ms.length - (RowKit.intOf iv).toNat)
    case atStart =>
      obtain ⟨S9, h9⟩ := HF.out
      exact ⟨_, 0, S9, _, _, _, rfl, by omega, rfl, h9, ⟨rfl, HR0.out, by simp, by simp⟩, HC8.out⟩
    case round =>
      obtain ⟨wr, i, S2, v2, d2, g2, rfl, hi, rfl, hrw, hst, hc⟩ := hrel
      have HRW2 := Lib.hid hrw
      have HST : Hid _ := hst
      have HC := Lib.hid hc
      clear hrw hst hc
      have HMW := Lib.hid (HMS.out.chg HIN.out HC.out)
      by_cases hil : i < ms.length
      · have hii : (i : Int) < (ms.length : Int) := by omega
        obtain ⟨b, off, rfl, hcell⟩ := HMW.out.c i hil
        obtain ⟨m, hm⟩ : ∃ m, ms[i] = m := ⟨_, rfl⟩
        rw [hm] at hcell
        have hmem : m ∈ ms := by rw [← hm]; exact List.getElem_mem hil
        have HBO := Lib.hid (HOK.out m hmem)
        have HRC := Lib.hid (HMW.out.r m hmem)
        have HRB := Lib.hid (HIN.out.r m hmem)
        have HDR : Hid ((ms.drop i).map Bm.b = m.b :: (ms.drop (i + 1)).map Bm.b) := by
          show _ = _
          rw [List.drop_eq_getElem_cons hil, hm]
          rfl
        have HIL := Lib.hid hil
        clear hm hmem
        obtain ⟨⟨bb, be, brs⟩, ra, rc⟩ := m
        have z0 := hcell 0 _ rfl
        have z1 := hcell 1 _ rfl
        have z2 := hcell 2 _ rfl
        rw [Nat.add_zero] at z0
        clear hcell
        have hal := (Chg.refl Nil wr).alloc (.cells #[.int .i64 bb, .int .i64 be, .slice ra brs.length rc] 41)
        have hbx := Box.new wr [.int .i64 bb, .int .i64 be, .slice ra brs.length rc] 41
        go_upto_region 12 with fail
        clear z0 z1 z2
        have hbx : Box (wr.alloc (.cells #[.int .i64 bb, .int .i64 be, .slice ra brs.length rc] 41)) wr.heap.size [.int .i64 bb, .int .i64 be, .slice ra brs.length rc] 41 := hbx
        have HRW3 := Lib.hid (HRW2.out.nil hal)
        have HC3 := Lib.hid (HC.out.trans hal (fun _ h => h.elim))
        have HRC3 : Hid (RecsAt (wr.alloc (.cells #[.int .i64 bb, .int .i64 be, .slice ra brs.length rc] 41)) ra brs) := RecsAt.chg hal HRC.out (fun _ _ h => h)
        clear hal
        generalize wr.alloc (.cells #[.int .i64 bb, .int .i64 be, .slice ra brs.length rc] 41) = w3 at *
        generalize wr.heap.size = gq at *
        have x0 := hbx.cell (j := 0) rfl
        have x1 := hbx.cell (j := 1) rfl
        have x2 := hbx.cell (j := 2) rfl
        have HNUM := Lib.hid HBO.out.nums
        have HAD : Hid (Calls Tryz.prog 12 #[.pointer (some ⟨t, 0, none⟩), .agg #[.int .i64 bb, .int .i64 be, .slice ra brs.length rc]] w3 fun e w' =>
            e = .returned (errD (addSg d2 g2 bb be brs).1) ∧ (∃ S' v', SgS (fun k => B k ∨ SHas s v k) w' p t S' v' (addSg d2 g2 bb be brs).2.1 (addSg d2 g2 bb be brs).2.2) ∧ Chg (Off (fun k => B k ∨ SHas s v k)) w3 w') := by
          have h1 := HNUM.out.lo
          have h2 := HNUM.out.lt
          have h3 := HNUM.out.hi
          have h4 : brs.length ≤ 50 := HNUM.out.few
          have h5 := HST.out.2.2.1
          have h6 := HST.out.2.2.2
          have h7 := HLM.out
          have h8 := HNL.out
          have h1 : 0 ≤ bb := h1
          have h2 : bb < be := h2
          have h3 : be ≤ 1099511627776 := h3
          exact sadd_any HRW3.out.t (by rw [HST.out.1]; omega) (by omega) (by omega) bb be ra brs rc (by omega) (by omega) (by omega) HBO.out.recs HRC3.out (fun h0 x hx hs => (HRW3.out.t.sl _ hs).1 (.inl (HRB.out h0 x hx))) (fun _ => HNUM.out.len)
        obtain ⟨A, hA⟩ : ∃ A, addSg d2 g2 bb be brs = A := ⟨_, rfl⟩
        have HA := Lib.hid hA
        rw [hA] at HAD
        have HR1 : Hid (rew2 d2 g g2 (⟨bb, be, brs⟩ :: (ms.drop (i + 1)).map Bm.b) = R) := by
          have h1 := HST.out.2.1
          rw [HDR.out] at h1
          exact h1
        have HAN : Hid (A.2.2.name = g2.name ∧ A.2.2.pls.length ≤ g2.pls.length + 1 ∧ A.2.2.size ≤ g2.size + 6000) := by
          rw [← hA]
          have h1 := addSg_more d2 g2 bb be brs
          have h2 : (encAll bb be brs).length ≤ 6000 := HNUM.out.len
          exact ⟨addSg_name _ _ _ _ _, h1.1, by omega⟩
        clear hA
        go_wp2_with fail
        refine HAD.out.mono ?_
        rintro e w4 ⟨rfl, h4, hc4⟩
        have HRW4 : Hid (∃ S' v', RwS B w4 p s t S' v v' A.2.1 g A.2.2) := by
          obtain ⟨S', v', h5⟩ := h4
          exact ⟨S', v', HRW3.out.op h5 hc4⟩
        have HC4 := Lib.hid (HC3.out.trans (RwS.off hc4) (fun _ h => .inl h))
        clear h4 hc4 HAD x0 x1 x2 hbx
        by_cases ha : A.1 = 0
        · have hev : errD A.1 = .nilIface := by rw [ha]; rfl
          rw [hev]
          have HR2 : Hid (rew2 A.2.1 g A.2.2 ((ms.drop (i + 1)).map Bm.b) = R) := by
            have h1 := HR1.out
            unfold rew2 at h1
            simp only at h1
            rw [HA.out, if_pos ha] at h1
            exact h1
          clear hev ha
          go_wp2_with fail
          go_roundw
          case rel =>
            obtain ⟨S', v', h5⟩ := HRW4.out
            have h6 := HAN.out
            have h7 := HST.out
            exact ⟨_, i + 1, S', v', _, _, rfl, HIL.out, by go_num, h5, ⟨h6.1.trans h7.1, HR2.out, by omega, by omega⟩, HC4.out⟩
          case measure => exact meas_two HIL.out
        · have hev : errD A.1 = .iface 32 (.int .i64 (A.1 : Nat)) := errD_ne ha
          rw [hev]
          have HR2 : Hid (R = (A.1, (A.2.1.remove A.2.2.name).2, g)) := by
            have h1 := HR1.out
            unfold rew2 at h1
            simp only at h1
            rw [HA.out, if_neg ha] at h1
            rw [HAN.out.1]
            exact h1.symm
          have HAW : Hid (Calls Tryz.prog 70 #[.pointer (some ⟨t, 0, none⟩), .iface 32 (.int .i64 (A.1 : Nat))] w4 fun e w' => e = .returned (errD A.1) ∧ (∃ S' v', RwS B w' p s t S' v v' (A.2.1.remove A.2.2.name).2 g A.2.2) ∧ Chg (Off (fun k => B k ∨ SHas s v k)) w4 w') := by
            obtain ⟨S', v', h5⟩ := HRW4.out
            refine (saway_any h5.t (by rw [HAN.out.1, HST.out.1]; have := HNL.out; omega) A.1 ha).mono ?_
            rintro e w' ⟨h1, ⟨S9, h2⟩, h3⟩
            exact ⟨h1, ⟨S9, v', h5.op h2 h3⟩, h3⟩
          clear hev ha
          go_wp2_with fail
          refine HAW.out.mono ?_
          rintro e w5 ⟨rfl, h5, hc5⟩
          have H5 := Lib.hid h5
          have HC5 := Lib.hid hc5
          clear h5 hc5 HAW
          generalize hev9 : errD A.1 = ev9
          go_wp2_with fail
          go_ret
          obtain ⟨S9, v9, h9⟩ := H5.out
          rw [HR2.out]
          exact ⟨by rw [← hev9]; rfl, ⟨S9, _, h9.back⟩, HC4.out.trans (RwS.off HC5.out) (fun _ h => .inl h)⟩
      · have hii : ¬ (i : Int) < (ms.length : Int) := by omega
        have HR1 : Hid (rew3 d2 g g2 = R) := by
          have h1 := HST.out.2.1
          rw [List.drop_eq_nil_of_le (by omega)] at h1
          exact h1
        have HGN2 : Hid (g2.name = nm) := HST.out.1
        have HSY : Hid (Calls Tryz.prog 15 #[.pointer (some ⟨t, 0, none⟩)] wr fun e w' => e = .returned (errD (d2.sync g2.name).1) ∧ (∃ S', RwS B w' p s t S' v v2 (d2.sync g2.name).2 g g2) ∧ Chg (Off (fun k => B k ∨ SHas s v k)) wr w') := by
          refine (ssync_any HRW2.out.t (by rw [HST.out.1]; have := HNL.out; omega)).mono ?_
          rintro e w' ⟨h1, ⟨S9, h2⟩, h3⟩
          exact ⟨h1, ⟨S9, HRW2.out.op h2 h3⟩, h3⟩
        obtain ⟨A, hA⟩ : ∃ A, d2.sync g2.name = A := ⟨_, rfl⟩
        have HA := Lib.hid hA
        rw [hA] at HSY
        clear hA
        go_wp2_with fail
        refine HSY.out.mono ?_
        rintro e w4 ⟨rfl, h4, hc4⟩
        have HRW4 := Lib.hid h4
        have HC4 := Lib.hid (HC.out.trans (RwS.off hc4) (fun _ h => .inl h))
        clear h4 hc4 HSY
        by_cases ha : A.1 = 0
        · have hev : errD A.1 = .nilIface := by rw [ha]; rfl
          rw [hev]
          have HR2 : Hid (rew4 A.2 g g2 = R) := by
            have h1 := HR1.out
            unfold rew3 at h1
            rw [HA.out, if_pos ha] at h1
            exact h1
          clear hev ha
          refine Exists.elim HRW4.out fun S4 h4 => ?_
          have HRWS := Lib.hid h4
          have c0 := h4.m.c.cell (j := 0) rfl
          have c1 := h4.m.c.cell (j := 1) rfl
          have t1 := h4.t.m.c.cell (j := 1) rfl
          rw [HGN2.out] at t1
          have HGS : Hid ((ByteArray.mk g.name.toArray).size ≤ 4611686018427387904) := by show g.name.toArray.size ≤ 4611686018427387904; simp; have := HG.out; omega
          clear h4
          go_wp2_with fail
          obtain ⟨Q, hQ⟩ : ∃ Q, A.2.rename nm g.name = Q := ⟨_, rfl⟩
          have HQ := Lib.hid hQ
          have HOP := Lib.hid (fun (w' : World) (h : RwS B w' p s t S4 v v2 A.2 g g2) => rename_any h.t.a ⟨nm.toArray⟩ ⟨g.name.toArray⟩ HNS.out HGS.out)
          clear hQ
          go_upto_region 19 with fail
          refine Ch.wp_region_chain _ (Chg (S4)) [12] (RopF B p s t S4 v v2 A.2 g g2 Q) (by kernel_rfl) (fun _ => Chg.refl _ _) (fun _ _ _ h k => h.trans k (fun _ h => .inl h)) [[], [0], [1], [2], [], [4], [5], [6], [], [8], [9], [10], [3, 7, 11], [12]] rfl (by kernel_rfl) (by kernel_rfl) (Chg.refl _ _).drew ?_ ?_
          · exact HRWS.out.nil (Chg.refl Nil _).drew
          iterate 3 ((with_reducible apply Ch.Walk.eq); (case hd => rfl); (case hi => rfl); case h => (intro w2 hw2 N hN; simp only [Ch.depsOf, List.filterMap_nil, List.filterMap_cons, List.getElem?_toArray, List.getElem?_cons_zero, List.getElem?_cons_succ, Option.bind_some, List.nil_append, List.cons_append, Ch.Ob]; go_simp; (try go_bits); with_reducible exact hN _ (Chg.refl _ _) (fun _ h => h)))
          ((with_reducible apply Ch.Walk.eq); (case hd => rfl); (case hi => rfl); case h => (intro w2 hw2 N hN; (have hq := hw2.cell c0 (fun h => (HRWS.out.t.sl s h).1 (.inr (.inl rfl)))); simp only [Ch.depsOf, List.filterMap_nil, List.filterMap_cons, List.getElem?_toArray, List.getElem?_cons_zero, List.getElem?_cons_succ, Option.bind_some, List.nil_append, List.cons_append, Ch.Ob]; go_simp; (try go_bits); with_reducible exact hN _ (Chg.refl _ _) (fun _ h => h)))
          iterate 3 ((with_reducible apply Ch.Walk.eq); (case hd => rfl); (case hi => rfl); case h => (intro w2 hw2 N hN; simp only [Ch.depsOf, List.filterMap_nil, List.filterMap_cons, List.getElem?_toArray, List.getElem?_cons_zero, List.getElem?_cons_succ, Option.bind_some, List.nil_append, List.cons_append, Ch.Ob]; go_simp; (try go_bits); with_reducible exact hN _ (Chg.refl _ _) (fun _ h => h)))
          ((with_reducible apply Ch.Walk.eq); (case hd => rfl); (case hi => rfl); case h => (intro w2 hw2 N hN; (have hq := hw2.cell t1 (HRWS.out.t.ap t (.inl rfl))); simp only [Ch.depsOf, List.filterMap_nil, List.filterMap_cons, List.getElem?_toArray, List.getElem?_cons_zero, List.getElem?_cons_succ, Option.bind_some, List.nil_append, List.cons_append, Ch.Ob]; go_simp; (try go_bits); with_reducible exact hN _ (Chg.refl _ _) (fun _ h => h)))
          iterate 3 ((with_reducible apply Ch.Walk.eq); (case hd => rfl); (case hi => rfl); case h => (intro w2 hw2 N hN; simp only [Ch.depsOf, List.filterMap_nil, List.filterMap_cons, List.getElem?_toArray, List.getElem?_cons_zero, List.getElem?_cons_succ, Option.bind_some, List.nil_append, List.cons_append, Ch.Ob]; go_simp; (try go_bits); with_reducible exact hN _ (Chg.refl _ _) (fun _ h => h)))
          ((with_reducible apply Ch.Walk.eq); (case hd => rfl); (case hi => rfl); case h => (intro w2 hw2 N hN; (have hq := hw2.cell c1 (fun h => (HRWS.out.t.sl s h).1 (.inr (.inl rfl)))); simp only [Ch.depsOf, List.filterMap_nil, List.filterMap_cons, List.getElem?_toArray, List.getElem?_cons_zero, List.getElem?_cons_succ, Option.bind_some, List.nil_append, List.cons_append, Ch.Ob]; go_simp; (try go_bits); with_reducible exact hN _ (Chg.refl _ _) (fun _ h => h)))
          refine Ch.Walk.chainE 0 (c := errD Q.1) rfl rfl ?_ ?_
          · intro w8 hw8 vs hvs hF N hN
            obtain rfl := List.eq_nil_of_length_eq_zero hvs
            have F3 : RwS B w8 p s t S4 v v2 A.2 g g2 := hF
            have HO6 := Lib.hid (HOP.out w8 F3)
            have HF3 := Lib.hid F3
            clear F3 hF
            simp only [Ch.depsOf, List.filterMap_nil, List.filterMap_cons, List.getElem?_toArray, List.getElem?_cons_zero, List.getElem?_cons_succ, Option.bind_some, List.nil_append, List.cons_append, Ch.Ob, Ch.chained_get, Option.map_some, List.idxOf?, List.findIdx?, List.findIdx?.go, Nat.reduceBEq, List.getD_cons_zero, List.getD_cons_succ, Nat.reduceAdd, if_true, if_false, Bool.false_eq_true]
            go_simp
            refine HO6.out.mono ?_
            rintro e w9 ⟨rfl, h2, h3⟩
            have h2 : DiskAt w9 p (Gr S4 w8 w9) (A.2.rename nm g.name).2 := h2
            have he : errD (A.2.rename (ByteArray.mk nm.toArray).data.toList (ByteArray.mk g.name.toArray).data.toList).1 = errD Q.1 := by show errD (A.2.rename nm g.name).1 = _; rw [HQ.out]
            rw [HQ.out] at h2
            rw [he]
            exact ⟨_, rfl, hN _ h3 ⟨_, HF3.out.disk h2 h3⟩⟩
          ((with_reducible apply Ch.Walk.eq); (case hd => rfl); (case hi => rfl); case h => (intro w2 hw2 N hN; simp only [Ch.depsOf, List.filterMap_nil, List.filterMap_cons, List.getElem?_toArray, List.getElem?_cons_zero, List.getElem?_cons_succ, Option.bind_some, List.nil_append, List.cons_append, Ch.Ob]; go_simp; (try go_bits); with_reducible exact hN _ (Chg.refl _ _) (fun _ h => h)))
          intro w8 hw8
          simp only [List.nil_append, List.cons_append, Ch.Fin, List.map_cons, List.map_nil, List.getD_cons_zero, List.getD_cons_succ]
          intro hF
          have HF : Hid (∃ S', RwS B w8 p s t S' v v2 Q.2 g g2) := hF
          have HW8 : Hid (Chg (Off (fun k => B k ∨ SHas s v k)) w4 w8) := hw8.weak (fun k hk => .inl (HRWS.out.t.sl k hk).1)
          have HC8 := Lib.hid (HC4.out.trans (RwS.off HW8.out) (fun _ h => .inl h))
          clear hF hw8 HOP
          by_cases hq : Q.1 = 0
          · have hev : errD Q.1 = .nilIface := by rw [hq]; rfl
            rw [hev]
            have HQ0 := Lib.hid hq
            clear hev hq
            go_simp
            have HR3 : Hid (R = (0, Q.2, { g with pls := g2.pls, size := g2.size })) := by
              have h1 := HR2.out
              unfold rew4 at h1
              rw [HGN2.out, HQ.out, if_pos HQ0.out] at h1
              exact h1.symm
            refine Exists.elim HF.out fun S9 h9 => ?_
            have HRW9 := Lib.hid h9
            have hvt := h9.t.m.o.form
            generalize vA v2 = a2 at hvt
            generalize vC v2 = e2 at hvt
            have t3 := h9.t.m.c.cell (j := 3) rfl
            have t4 := h9.t.m.c.cell (j := 4) rfl
            have HTS : Hid (¬ t = s) := fun e => h9.t.ml t (.inl rfl) (.inr (.inl e))
            have HBS := Lib.hid h9.m.c
            subst hvt
            clear h9 c0 c1 t1
            go_wp2_with fail
            go_upto_region 22 with fail
            refine Ch.wp_region_chain _ (Chg (fun k => k = s)) [12, 15] (TkF s (.pointer (some ⟨p, 0, none⟩)) (.string ⟨g.name.toArray⟩) (.int .i64 g.base) v (.int .i64 (g.size : Nat)) (.slice a2 g2.pls.length e2) (.int .i64 (g2.size : Nat))) (by kernel_rfl) (fun _ => Chg.refl _ _) (fun _ _ _ h k => h.trans k (fun _ h => .inl h)) [[], [], [], [2], [3], [4], [], [6], [7], [8], [0], [10], [5, 11], [1], [13], [9, 14]] rfl (by kernel_rfl) (by kernel_rfl) (Chg.refl _ _).drew ?_ ?_
            · exact HBS.out.chg (Chg.refl Nil _).drew (fun h => h)
            iterate 5 ((with_reducible apply Ch.Walk.eq); (case hd => rfl); (case hi => rfl); case h => (intro w2 hw2 N hN; simp only [Ch.depsOf, List.filterMap_nil, List.filterMap_cons, List.getElem?_toArray, List.getElem?_cons_zero, List.getElem?_cons_succ, Option.bind_some, List.nil_append, List.cons_append, Ch.Ob]; go_simp; (try go_bits); with_reducible exact hN _ (Chg.refl _ _) (fun _ h => h)))
            ((with_reducible apply Ch.Walk.eq); (case hd => rfl); (case hi => rfl); case h => (intro w2 hw2 N hN; (have hq := hw2.cell t3 HTS.out); simp only [Ch.depsOf, List.filterMap_nil, List.filterMap_cons, List.getElem?_toArray, List.getElem?_cons_zero, List.getElem?_cons_succ, Option.bind_some, List.nil_append, List.cons_append, Ch.Ob]; go_simp; (try go_bits); with_reducible exact hN _ (Chg.refl _ _) (fun _ h => h)))
            iterate 3 ((with_reducible apply Ch.Walk.eq); (case hd => rfl); (case hi => rfl); case h => (intro w2 hw2 N hN; simp only [Ch.depsOf, List.filterMap_nil, List.filterMap_cons, List.getElem?_toArray, List.getElem?_cons_zero, List.getElem?_cons_succ, Option.bind_some, List.nil_append, List.cons_append, Ch.Ob]; go_simp; (try go_bits); with_reducible exact hN _ (Chg.refl _ _) (fun _ h => h)))
            ((with_reducible apply Ch.Walk.eq); (case hd => rfl); (case hi => rfl); case h => (intro w2 hw2 N hN; (have hq := hw2.cell t4 HTS.out); simp only [Ch.depsOf, List.filterMap_nil, List.filterMap_cons, List.getElem?_toArray, List.getElem?_cons_zero, List.getElem?_cons_succ, Option.bind_some, List.nil_append, List.cons_append, Ch.Ob]; go_simp; (try go_bits); with_reducible exact hN _ (Chg.refl _ _) (fun _ h => h)))
            iterate 2 ((with_reducible apply Ch.Walk.eq); (case hd => rfl); (case hi => rfl); case h => (intro w2 hw2 N hN; simp only [Ch.depsOf, List.filterMap_nil, List.filterMap_cons, List.getElem?_toArray, List.getElem?_cons_zero, List.getElem?_cons_succ, Option.bind_some, List.nil_append, List.cons_append, Ch.Ob]; go_simp; (try go_bits); with_reducible exact hN _ (Chg.refl _ _) (fun _ h => h)))
            simp only [List.nil_append, List.cons_append]
            refine Ch.Walk.chainS 0 rfl rfl ?_ ?_
            · intro w9 hw9 vs hvs hF N hN
              obtain rfl := List.eq_nil_of_length_eq_zero hvs
              have hb : Box w9 s [.pointer (some ⟨p, 0, none⟩), .string ⟨g.name.toArray⟩, .int .i64 g.base, v, .int .i64 (g.size : Nat)] 80 := hF
              have b3 := hb.cell (j := 3) rfl
              have f3 := hb.free 3
              have HB := Lib.hid (hb.set 3 (.slice a2 g2.pls.length e2))
              clear hb hF
              simp only [Ch.depsOf, List.filterMap_nil, List.filterMap_cons, List.getElem?_toArray, List.getElem?_cons_zero, List.getElem?_cons_succ, Option.bind_some, List.nil_append, List.cons_append, Ch.Ob, Ch.chained_get, Option.map_some, List.idxOf?, List.findIdx?, List.findIdx?.go, Nat.reduceBEq, List.getD_cons_zero, List.getD_cons_succ, Nat.reduceAdd, if_true, if_false, Bool.false_eq_true]
              go_simp
              exact hN _ ((Chg.refl (fun k => k = s) w9).setCell (p := ⟨s, 3, none⟩) (.inl rfl) _) HB.out
            simp only [List.nil_append, List.cons_append]
            iterate 2 ((with_reducible apply Ch.Walk.eq); (case hd => rfl); (case hi => rfl); case h => (intro w2 hw2 N hN; simp only [Ch.depsOf, List.filterMap_nil, List.filterMap_cons, List.getElem?_toArray, List.getElem?_cons_zero, List.getElem?_cons_succ, Option.bind_some, List.nil_append, List.cons_append, Ch.Ob]; go_simp; (try go_bits); with_reducible exact hN _ (Chg.refl _ _) (fun _ h => h)))
            simp only [List.nil_append, List.cons_append]
            refine Ch.Walk.chainSx (fun x : Value => x) (fun _ w9 => Box w9 s [.pointer (some ⟨p, 0, none⟩), .string ⟨g.name.toArray⟩, .int .i64 g.base, .slice a2 g2.pls.length e2, .int .i64 (g.size : Nat)] 80) (fun x _ h => ⟨x, rfl, h⟩) rfl rfl ?_ ?_
            · intro w9 hw9 x hb N hN
              have b4 := hb.cell (j := 4) rfl
              have f4 := hb.free 4
              have HB := Lib.hid (hb.set 4 (.int .i64 (g2.size : Nat)))
              clear hb
              simp only [Ch.depsOf, List.filterMap_nil, List.filterMap_cons, List.getElem?_toArray, List.getElem?_cons_zero, List.getElem?_cons_succ, Option.bind_some, List.nil_append, List.cons_append, Ch.Ob, Ch.chained_get, Option.map_some, List.idxOf?, List.findIdx?, List.findIdx?.go, Nat.reduceBEq, List.getD_cons_zero, List.getD_cons_succ, Nat.reduceAdd, if_true, if_false, Bool.false_eq_true]
              go_simp
              exact hN _ ((Chg.refl (fun k => k = s) w9).setCell (p := ⟨s, 4, none⟩) (.inl rfl) _) HB.out
            intro w9 hw9
            simp only [List.nil_append, List.cons_append, Ch.Fin, List.map_cons, List.map_nil, List.getD_cons_zero, List.getD_cons_succ]
            intro hF
            have HB9 : Hid (Box w9 s [.pointer (some ⟨p, 0, none⟩), .string ⟨g.name.toArray⟩, .int .i64 g.base, .slice a2 g2.pls.length e2, .int .i64 (g2.size : Nat)] 80) := hF
            have HW9 := Lib.hid hw9
            clear hF hw9 t3 t4
            go_simp
            go_wp2_with fail
            go_ret
            rw [HR3.out]
            exact ⟨rfl, ⟨S9, _, HRW9.out.taken HW9.out HB9.out⟩, HC8.out.trans HW9.out (fun k hk => .inl (by rw [hk]; exact HRW9.out.ml s (.inl rfl)))⟩
          · have hev : errD Q.1 = .iface 32 (.int .i64 (Q.1 : Nat)) := errD_ne hq
            rw [hev]
            have HQ0 := Lib.hid hq
            clear hev hq
            go_simp
            have HR3 : Hid (R = (Q.1, (Q.2.remove g2.name).2, g)) := by
              have h1 := HR2.out
              unfold rew4 at h1
              rw [HGN2.out, HQ.out, if_neg HQ0.out] at h1
              rw [HGN2.out]
              exact h1.symm
            have HAW : Hid (Calls Tryz.prog 70 #[.pointer (some ⟨t, 0, none⟩), .iface 32 (.int .i64 (Q.1 : Nat))] w8 fun e w' => e = .returned (errD Q.1) ∧ (∃ S' v', RwS B w' p s t S' v v' (Q.2.remove g2.name).2 g g2) ∧ Chg (Off (fun k => B k ∨ SHas s v k)) w8 w') := by
              obtain ⟨S', h5⟩ := HF.out
              refine (saway_any h5.t (by rw [HGN2.out]; have := HNL.out; omega) Q.1 HQ0.out).mono ?_
              rintro e w' ⟨h1, ⟨S9, h2⟩, h3⟩
              exact ⟨h1, ⟨S9, _, h5.op h2 h3⟩, h3⟩
            go_wp2_with fail
            refine HAW.out.mono ?_
            rintro e w5 ⟨rfl, h5, hc5⟩
            have H5 := Lib.hid h5
            have HC5 := Lib.hid hc5
            clear h5 hc5 HAW
            generalize hev9 : errD Q.1 = ev9
            go_wp2_with fail
            go_ret
            obtain ⟨S9, v9, h9⟩ := H5.out
            rw [HR3.out]
            exact ⟨by rw [← hev9]; rfl, ⟨S9, _, h9.back⟩, HC8.out.trans (RwS.off HC5.out) (fun _ h => .inl h)⟩
        · have hev : errD A.1 = .iface 32 (.int .i64 (A.1 : Nat)) := errD_ne ha
          rw [hev]
          have HR2 : Hid (R = (A.1, (A.2.remove g2.name).2, g)) := by
            have h1 := HR1.out
            unfold rew3 at h1
            rw [HA.out, if_neg ha] at h1
            exact h1.symm
          have HAW : Hid (Calls Tryz.prog 70 #[.pointer (some ⟨t, 0, none⟩), .iface 32 (.int .i64 (A.1 : Nat))] w4 fun e w' => e = .returned (errD A.1) ∧ (∃ S' v', RwS B w' p s t S' v v' (A.2.remove g2.name).2 g g2) ∧ Chg (Off (fun k => B k ∨ SHas s v k)) w4 w') := by
            obtain ⟨S', h5⟩ := HRW4.out
            refine (saway_any h5.t (by rw [HGN2.out]; have := HNL.out; omega) A.1 ha).mono ?_
            rintro e w' ⟨h1, ⟨S9, h2⟩, h3⟩
            exact ⟨h1, ⟨S9, _, h5.op h2 h3⟩, h3⟩
          clear hev ha
          go_wp2_with fail
          refine HAW.out.mono ?_
          rintro e w5 ⟨rfl, h5, hc5⟩
          have H5 := Lib.hid h5
          have HC5 := Lib.hid hc5
          clear h5 hc5 HAW
          generalize hev9 : errD A.1 = ev9
          go_wp2_with fail
          go_ret
          obtain ⟨S9, v9, h9⟩ := H5.out
          rw [HR2.out]
          exact ⟨by rw [← hev9]; rfl, ⟨S9, _, h9.back⟩, HC4.out.trans (RwS.off HC5.out) (fun _ h => .inl h)⟩
  · have hev : errD Q.1 = .iface 32 (.int .i64 (Q.1 : Nat)) := errD_ne hq
    rw [hev]
    have HQ0 := Lib.hid hq
    clear hev hq
    go_simp
    have HR0 : Hid (R = (Q.1, Q.2, g)) := by
      have h1 := HR9.out
      unfold rew1 at h1
      rw [HQ.out, if_neg HQ0.out] at h1
      exact h1.symm
    go_wp2_with fail
    go_ret
    obtain ⟨S9, h9⟩ := HF.out
    rw [HR0.out]
    exact ⟨congrArg Ending.returned (errD_ne HQ0.out).symm, ⟨S9, _, h9.back⟩, HC8.out⟩
end Go.Proofs.YtmaomebnigcgeaaGreatDoor

/-
  A disk of one file, and of two, plain: what becomes of a segment there. (Of the segments' seat.)
-/
set_option linter.unusedSimpArgs false
set_option linter.unusedVariables false
namespace Go.Proofs.YtmaomebnigcgeaaGreatDoor
open Go.RowKit Go.Lib

structure One (d : Dk) (room : Nat) (nm : Nm) (bs : List UInt8) : Prop where
  fs : ∃ sf, d.fs = [(nm, ⟨bs, sf⟩)]
  room : d.room = room
  left : d.left = -1
structure Two (d : Dk) (room : Nat) (nm : Nm) (bs : List UInt8) (nm2 : Nm) (cs : List UInt8) : Prop where
  fs : ∃ sf sf2, d.fs = [(nm, ⟨bs, sf⟩), (nm2, ⟨cs, sf2⟩)]
  ne : nm2 ≠ nm
  room : d.room = room
  left : d.left = -1
theorem step_same {d : Dk} (h : d.left = -1) : d.step = d := by
  unfold Dk.step stepL
  rw [h]
  cases d
  simp only at h
  subst h
  rfl
theorem does_true {d : Dk} (h : d.left = -1) : d.does = true := by unfold Dk.does didB; rw [h]; rfl
theorem One.find {d : Dk} {room : Nat} {nm : Nm} {bs : List UInt8} (h : One d room nm bs) : ∃ sf, d.find nm = some ⟨bs, sf⟩ := by
  obtain ⟨sf, hf⟩ := h.fs
  exact ⟨sf, by unfold Dk.find; rw [hf]; simp⟩
theorem One.size {d : Dk} {room : Nat} {nm : Nm} {bs : List UInt8} (h : One d room nm bs) : d.size nm = bs.length := by
  obtain ⟨sf, hf⟩ := h.find
  unfold Dk.size
  rw [hf]
theorem One.size_no {d : Dk} {room : Nat} {nm x : Nm} {bs : List UInt8} (h : One d room nm bs) (hx : x ≠ nm) : d.find x = none := by
  obtain ⟨sf, hf⟩ := h.fs
  have hb : (x == nm) = false := beq_eq_false_iff_ne.2 hx
  unfold Dk.find
  rw [hf]
  simp [List.lookup, hb]
theorem One.used {d : Dk} {room : Nat} {nm : Nm} {bs : List UInt8} (h : One d room nm bs) : d.used = bs.length := by
  obtain ⟨sf, hf⟩ := h.fs
  unfold Dk.used
  rw [hf]
  simp
theorem One.add {d : Dk} {room : Nat} {nm : Nm} {bs : List UInt8} (h : One d room nm bs) (b : List UInt8) :
    (room < bs.length + b.length → d.add nm b = (12, d)) ∧ (¬ room < bs.length + b.length → ∃ d', d.add nm b = (0, d') ∧ One d' room nm (bs ++ b)) := by
  obtain ⟨sf, hf⟩ := h.find
  obtain ⟨sf2, hfs⟩ := h.fs
  unfold Dk.add Dk.at
  rw [if_neg (by rw [does_true h.left]; simp), hf, step_same h.left]
  simp only [h.room, h.used]
  refine ⟨fun hr => by rw [if_pos hr]; rfl, fun hr => ?_⟩
  rw [if_neg hr]
  refine ⟨_, rfl, ⟨sf, ?_⟩, h.room, h.left⟩
  show (d.turn nm ⟨bs ++ b, sf⟩).fs = _
  unfold Dk.turn
  rw [hfs]
  simp
theorem One.sync {d : Dk} {room : Nat} {nm : Nm} {bs : List UInt8} (h : One d room nm bs) : ∃ d', d.sync nm = (0, d') ∧ One d' room nm bs := by
  obtain ⟨sf, hf⟩ := h.find
  obtain ⟨sf2, hfs⟩ := h.fs
  unfold Dk.sync Dk.at
  rw [if_neg (by rw [does_true h.left]; simp), hf, step_same h.left]
  refine ⟨_, rfl, ⟨bs.length, ?_⟩, h.room, h.left⟩
  show (d.turn nm ⟨bs, bs.length⟩).fs = _
  unfold Dk.turn
  rw [hfs]
  simp
theorem One.remove {d : Dk} {room : Nat} {nm : Nm} {bs : List UInt8} (h : One d room nm bs) : ∃ d', d.remove nm = (0, d') ∧ d'.used = 0 := by
  obtain ⟨sf, hf⟩ := h.find
  obtain ⟨sf2, hfs⟩ := h.fs
  unfold Dk.remove Dk.at
  rw [if_neg (by rw [does_true h.left]; simp), hf, step_same h.left]
  refine ⟨_, rfl, ?_⟩
  show (d.del nm).used = 0
  unfold Dk.used Dk.del
  rw [hfs]
  simp
theorem One.make {d : Dk} {room : Nat} {nm nm2 : Nm} {bs : List UInt8} (h : One d room nm bs) (hn : nm2 ≠ nm) (hk : dkName nm2 = true) : ∃ d', d.make nm2 = (0, d') ∧ Two d' room nm bs nm2 [] := by
  obtain ⟨sf2, hfs⟩ := h.fs
  unfold Dk.make
  rw [if_neg (by rw [does_true h.left]; simp), if_neg (by rw [hk]; simp), h.size_no hn, step_same h.left, if_neg (by simp), if_neg (by rw [hfs]; simp)]
  refine ⟨_, rfl, ⟨sf2, 0, ?_⟩, hn, h.room, h.left⟩
  unfold Dk.put
  rw [hfs]
  simp [Ne.symm hn]
theorem Two.find {d : Dk} {room : Nat} {nm nm2 : Nm} {bs cs : List UInt8} (h : Two d room nm bs nm2 cs) : ∃ sf, d.find nm2 = some ⟨cs, sf⟩ := by
  obtain ⟨sf, sf2, hf⟩ := h.fs
  refine ⟨sf2, ?_⟩
  unfold Dk.find
  rw [hf]
  have hb : (nm2 == nm) = false := beq_eq_false_iff_ne.2 h.ne
  simp [List.lookup, hb]
theorem Two.used {d : Dk} {room : Nat} {nm nm2 : Nm} {bs cs : List UInt8} (h : Two d room nm bs nm2 cs) : d.used = bs.length + cs.length := by
  obtain ⟨sf, sf2, hf⟩ := h.fs
  unfold Dk.used
  rw [hf]
  simp
theorem Two.add {d : Dk} {room : Nat} {nm nm2 : Nm} {bs cs : List UInt8} (h : Two d room nm bs nm2 cs) (b : List UInt8) :
    (room < bs.length + cs.length + b.length → d.add nm2 b = (12, d)) ∧ (¬ room < bs.length + cs.length + b.length → ∃ d', d.add nm2 b = (0, d') ∧ Two d' room nm bs nm2 (cs ++ b)) := by
  obtain ⟨sf, hf⟩ := h.find
  obtain ⟨sf1, sf2, hfs⟩ := h.fs
  have hne := h.ne
  unfold Dk.add Dk.at
  rw [if_neg (by rw [does_true h.left]; simp), hf, step_same h.left]
  simp only [h.room, h.used]
  refine ⟨fun hr => by rw [if_pos hr]; rfl, fun hr => ?_⟩
  rw [if_neg hr]
  refine ⟨_, rfl, ⟨sf1, sf, ?_⟩, h.ne, h.room, h.left⟩
  show (d.turn nm2 ⟨cs ++ b, sf⟩).fs = _
  unfold Dk.turn
  rw [hfs]
  simp [Ne.symm hne]
theorem Two.sync {d : Dk} {room : Nat} {nm nm2 : Nm} {bs cs : List UInt8} (h : Two d room nm bs nm2 cs) : ∃ d', d.sync nm2 = (0, d') ∧ Two d' room nm bs nm2 cs := by
  obtain ⟨sf, hf⟩ := h.find
  obtain ⟨sf1, sf2, hfs⟩ := h.fs
  have hne := h.ne
  unfold Dk.sync Dk.at
  rw [if_neg (by rw [does_true h.left]; simp), hf, step_same h.left]
  refine ⟨_, rfl, ⟨sf1, cs.length, ?_⟩, h.ne, h.room, h.left⟩
  show (d.turn nm2 ⟨cs, cs.length⟩).fs = _
  unfold Dk.turn
  rw [hfs]
  simp [Ne.symm hne]
theorem Two.remove {d : Dk} {room : Nat} {nm nm2 : Nm} {bs cs : List UInt8} (h : Two d room nm bs nm2 cs) : ∃ d', d.remove nm2 = (0, d') ∧ One d' room nm bs := by
  obtain ⟨sf, hf⟩ := h.find
  obtain ⟨sf1, sf2, hfs⟩ := h.fs
  have hne := h.ne
  unfold Dk.remove Dk.at
  rw [if_neg (by rw [does_true h.left]; simp), hf, step_same h.left]
  refine ⟨_, rfl, ⟨sf1, ?_⟩, h.room, h.left⟩
  show (d.del nm2).fs = _
  unfold Dk.del
  rw [hfs]
  simp [Ne.symm hne]
theorem Two.rename {d : Dk} {room : Nat} {nm nm2 : Nm} {bs cs : List UInt8} (h : Two d room nm bs nm2 cs) (hk : dkName nm = true) : ∃ d', d.rename nm2 nm = (0, d') ∧ One d' room nm cs := by
  obtain ⟨sf, hf⟩ := h.find
  obtain ⟨sf1, sf2, hfs⟩ := h.fs
  have hne := h.ne
  unfold Dk.rename Dk.at
  rw [if_neg (by rw [does_true h.left]; simp), hf, step_same h.left]
  simp only [hk]
  refine ⟨_, rfl, ⟨sf, ?_⟩, h.room, h.left⟩
  show ((d.del nm2).put nm ⟨cs, sf⟩).fs = _
  unfold Dk.put Dk.del
  rw [hfs]
  simp [Ne.symm hne]
/-- A batch that may be, at the end. -/
theorem addSg_ok {d : Dk} {g : Sg} {b : Bt} (hb : b.Ok) (hn : g.next ≤ b.base) : addSg d g b.base b.en b.rs = if (d.add g.name b.bytes).1 = 0 then (0, (d.add g.name b.bytes).2, g.noted b.base b.en b.rs b.bytes.length) else ((d.add g.name b.bytes).1, (d.add g.name b.bytes).2, g) := by
  unfold addSg
  rw [if_neg (by simpa using hb.err), if_neg (by omega)]
  rfl
theorem rew2_law {room : Nat} {nm nm2 : Nm} {bs : List UInt8} {g : Sg} : ∀ (l done : List Bt) (d : Dk) (gt : Sg), gt.name = nm2 → Two d room nm bs nm2 (batBs done) → SgOf gt done → (∀ b ∈ l, b.Ok) → rising (lastEnd gt.base done) l →
    (bs.length + (batBs done).length + (batBs l).length ≤ room → ∃ d' gt', rew2 d g gt l = rew3 d' g gt' ∧ Two d' room nm bs nm2 (batBs (done ++ l)) ∧ SgOf gt' (done ++ l) ∧ gt'.name = nm2) ∧
    (¬ bs.length + (batBs done).length + (batBs l).length ≤ room → bs.length + (batBs done).length ≤ room → ∃ d', rew2 d g gt l = (12, d', g) ∧ One d' room nm bs)
  | [], done, d, gt, hnm, hd, hg, _, _ => by
    refine ⟨fun _ => ⟨d, gt, rfl, by rw [List.append_nil]; exact hd, by rw [List.append_nil]; exact hg, hnm⟩, fun h h2 => ?_⟩
    exact absurd (by simpa [batBs] using h2) h
  | b :: l, done, d, gt, hnm, hd, hg, hok, hr => by
    have hb := hok b (List.mem_cons_self ..)
    have hn : gt.next ≤ b.base := by rw [hg.next]; exact hr.1
    have ha := hd.add b.bytes
    have e1 : rew2 d g gt (b :: l) = if (addSg d gt b.base b.en b.rs).1 = 0 then rew2 (addSg d gt b.base b.en b.rs).2.1 g (addSg d gt b.base b.en b.rs).2.2 l else ((addSg d gt b.base b.en b.rs).1, ((addSg d gt b.base b.en b.rs).2.1.remove gt.name).2, g) := rfl
    rw [e1, addSg_ok hb hn, hnm]
    by_cases hro : room < bs.length + (batBs done).length + b.bytes.length
    · rw [ha.1 hro, if_neg (by simp)]
      obtain ⟨d', h1, h2⟩ := hd.remove
      refine ⟨fun h => ?_, fun _ _ => ⟨d', ?_, h2⟩⟩
      · rw [batBs_cons, List.length_append] at h; omega
      · rw [if_neg (by simp)]
        show (12, (d.remove nm2).2, g) = _
        rw [h1]
    · obtain ⟨d', h1, h2⟩ := ha.2 hro
      rw [h1, if_pos rfl, if_pos rfl]
      have h3 := hg.noted hb hn
      have h4 : Two d' room nm bs nm2 (batBs (done ++ [b])) := by rw [batBs_snoc]; exact h2
      have h5 := rew2_law (room := room) (nm := nm) (nm2 := nm2) (bs := bs) (g := g) l (done ++ [b]) d' (gt.noted b.base b.en b.rs b.bytes.length) hnm h4 h3 (fun c hc => hok c (List.mem_cons_of_mem _ hc)) (by rw [lastEnd_snoc]; exact hr.2)
      have e2 : done ++ b :: l = done ++ [b] ++ l := by simp
      have e3 : (batBs (done ++ [b])).length = (batBs done).length + b.bytes.length := by rw [batBs_snoc, List.length_append]
      have e4 : (batBs (b :: l)).length = b.bytes.length + (batBs l).length := by rw [batBs_cons, List.length_append]
      rw [e2]
      exact ⟨fun h => h5.1 (by omega), fun h _ => h5.2 (by omega) (by omega)⟩
theorem rewL_law {room : Nat} {nm nm2 : Nm} {d : Dk} {g : Sg} {l0 l : List Bt} (h : One d room nm (batBs l0)) (hfit : (batBs l0).length ≤ room) (hg : SgOf g l0) (hnm : g.name = nm) (hne : nm2 ≠ nm) (h1 : dkName nm = true) (h2 : dkName nm2 = true) (hok : ∀ b ∈ l, b.Ok) (hr : rising g.base l) :
    ((batBs l0).length + (batBs l).length ≤ room → ∃ d' g', rewL d g nm2 l = (0, d', g') ∧ One d' room nm (batBs l) ∧ SgOf g' l ∧ g'.name = nm ∧ g'.base = g.base) ∧
    (¬ (batBs l0).length + (batBs l).length ≤ room → ∃ d', rewL d g nm2 l = (12, d', g) ∧ One d' room nm (batBs l0)) := by
  have e0 : rew0 d nm2 = (0, d) := by
    unfold rew0 Dk.size
    rw [h.size_no hne]
    rfl
  obtain ⟨d1, hm, ht⟩ := h.make hne h2
  have h3 := rew2_law (room := room) (nm := nm) (nm2 := nm2) (bs := batBs l0) (g := g) l [] d1 ⟨nm2, g.base, [], 0⟩ rfl ht ⟨rfl, rfl, fun b hb => (by cases hb), trivial⟩ hok hr
  have e1 : rewL d g nm2 l = rew2 d1 g ⟨nm2, g.base, [], 0⟩ l := by
    unfold rewL rew1
    rw [e0, if_pos rfl, hm, if_pos rfl]
  rw [e1]
  have e2 : (batBs ([] : List Bt)).length = 0 := rfl
  refine ⟨fun hf => ?_, fun hf => h3.2 (by omega) (by omega)⟩
  obtain ⟨d2, gt, e3, h4, h5, h6⟩ := h3.1 (by omega)
  rw [e3]
  obtain ⟨d3, hs, h7⟩ := h4.sync
  obtain ⟨d4, hn, h8⟩ := h7.rename h1
  unfold rew3 rew4
  rw [h6, hs, if_pos rfl, hnm, hn, if_pos rfl]
  exact ⟨d4, _, rfl, h8, ⟨h5.pls, h5.size, h5.ok, hr⟩, by first | exact hnm | rfl, rfl⟩
/-- A segment's name, and that of the file beside it, may be. -/
theorem digits_ok : ∀ n : Nat, (decDigits n).all (cutDisk.contains ·) = true := by
  intro n
  induction n using Nat.strongRecOn with
  | ind n ih =>
    have key : ∀ u, u < 10 → cutDisk.contains (UInt8.ofNat (48 + u)) = true := by decide
    by_cases h : n < 10
    · rw [dec_one h]
      simp only [List.all_cons, List.all_nil, Bool.and_true]
      exact key n h
    · rw [dec_step h, List.all_append, ih (n / 10) (by omega)]
      simp only [List.all_cons, List.all_nil, Bool.and_true, Bool.true_and]
      exact key (n % 10) (by omega)
theorem seg_ok (n : Nat) (hn : n ≤ 1099511627776) (c : UInt8) (hc : cutDisk.contains c = true) : dkName (segName [c] n) = true ∧ dkName (segName [c] n ++ dotnew) = true := by
  have h1 := dec_len 12 n (by omega)
  have h2 := digits_ok n
  have hz : (zeros n).all (cutDisk.contains ·) = true := by
    unfold zeros
    rw [List.all_eq_true]
    intro x hx
    rw [(List.mem_replicate.1 hx).2]
    decide
  have hd : dotlog.all (cutDisk.contains ·) = true := by decide
  have hw : dotnew.all (cutDisk.contains ·) = true := by decide
  have hs : ([47] : List UInt8).all (cutDisk.contains ·) = true := by decide
  have hm : c ∈ cutDisk := by simpa using hc
  have ha : (segName [c] n).all (cutDisk.contains ·) = true := by
    unfold segName pad
    rw [List.all_append, List.all_append, List.all_append, List.all_append, hz, h2, hd, hs]
    simp [hm]
  have hl : (segName [c] n).length ≤ 26 := by
    unfold segName pad zeros dotlog
    simp only [List.length_append, List.length_replicate, List.length_cons, List.length_nil]
    omega
  have hne : segName [c] n ≠ [] := by unfold segName; simp
  unfold dkName nameOk
  refine ⟨?_, ?_⟩
  · rw [ha]
    simp [hne]
    omega
  · rw [List.all_append, ha, hw]
    simp [hne, dotnew]
    omega
theorem new_ne (x : Nm) : x ++ dotnew ≠ x := by
  intro e
  have := congrArg List.length e
  rw [List.length_append] at this
  have h2 : dotnew.length = 4 := rfl
  omega
end Go.Proofs.YtmaomebnigcgeaaGreatDoor

/-
  A segment beside what is kept; a new disk. (Of the segments' seat; alike in SqW, SpL: for laws that need neither.)
-/
set_option linter.unusedSimpArgs false
set_option linter.unusedVariables false
namespace Go.Proofs.YtmaomebnigcgeaaGreatDoor
open Go.RowKit Go.Maps

theorem SgS.kept {B : Nat → Prop} {w w' : World} {p s : Nat} {S : Nat → Prop} {v : Value} {d : Dk} {g : Sg} (h : SgS B w p s S v d g) (hc : Chg B w w') : SgS B w' p s S v d g := by
  have hz := hc.size
  exact ⟨fun k hk => Nat.lt_of_lt_of_le (h.lo k hk) hz, h.a.chg hc (fun k hk hs => (h.sl k hk).1 hs), h.m.chg hc (fun k hk hb => h.ml k hk hb), h.ap, fun k hk => ⟨(h.sl k hk).1, Nat.lt_of_lt_of_le (h.sl k hk).2 hz⟩, h.ml⟩
theorem DsS.start {w w1 : World} {p mb r : Nat} (hr : r ≤ 1048576) (hp : w.heap.size ≤ p) (hm : w.heap.size ≤ mb) (hd : Dm w1 p mb [] (fun _ => undef) (fun _ => ⟨[], 0⟩) r (-1)) (hc1 : Chg Nil w w1) :
    DsS (fun k => k < w.heap.size) w1 p (fun k => w.heap.size ≤ k ∧ k < w1.heap.size) (Dk.fresh r) := by
  have hz := hc1.size
  refine ⟨fun k hk => by omega, ?_, fun k hk => ⟨by omega, hk.2⟩⟩
  refine ⟨mb, [], _, _, hd, rfl, fun k hk => ⟨?_, hd.lt k hk⟩, ⟨by simp [Dk.fresh, Dk.names], by simp [Dk.fresh], by simp [Dk.fresh, Dk.used], hr, by simp [Dk.fresh], by simp [Dk.fresh], by simp [Dk.fresh, Dk.names]⟩⟩
  rcases hk with rfl | rfl | ⟨q, hq, _⟩
  · exact hp
  · exact hm
  · simp at hq
theorem fresh_make {r : Nat} {nm : Nm} (hk : dkName nm = true) : ∃ d', (Dk.fresh r).make nm = (0, d') ∧ One d' r nm [] := by
  unfold Dk.make
  rw [if_neg (by simp [Dk.does, didB, Dk.fresh]), if_neg (by rw [hk]; simp)]
  refine ⟨_, rfl, ⟨0, rfl⟩, rfl, rfl⟩
end Go.Proofs.YtmaomebnigcgeaaGreatDoor

/-
  A torn end is no batch: plain data. Bytes whose last three at most are others have another sum.
-/
set_option linter.unusedSimpArgs false
set_option linter.unusedVariables false
namespace Go.Proofs.YtmaomebnigcgeaaGreatDoor
open Go.RowKit

theorem xor_half2 (x y : Nat) : (x ^^^ y) / 2 = (x / 2) ^^^ (y / 2) := by
  apply Nat.eq_of_testBit_eq
  intro i
  rw [← Nat.testBit_succ, Nat.testBit_xor, Nat.testBit_xor, Nat.testBit_succ, Nat.testBit_succ]
theorem xor_mod2 (x y : Nat) : (x ^^^ y) % 2 = (x % 2 + y % 2) % 2 := by
  have h := Nat.testBit_xor x y 0
  simp only [Nat.testBit_zero] at h
  have hx := Nat.mod_two_eq_zero_or_one x
  have hy := Nat.mod_two_eq_zero_or_one y
  have hz := Nat.mod_two_eq_zero_or_one (x ^^^ y)
  rcases hx with hx | hx <;> rcases hy with hy | hy <;> rcases hz with hz | hz <;> simp_all
theorem cbit_xor (x y : Nat) : cbit (x ^^^ y) = cbit x ^^^ cbit y := by
  unfold cbit
  rw [xor_half2, xor_mod2]
  have hx := Nat.mod_two_eq_zero_or_one x
  have hy := Nat.mod_two_eq_zero_or_one y
  generalize x / 2 = a
  generalize y / 2 = b
  have comm : ∀ p : Nat, (a ^^^ p) ^^^ (b ^^^ p) = a ^^^ b := fun p => by
    rw [Nat.xor_comm b p, Nat.xor_assoc, ← Nat.xor_assoc p p, Nat.xor_self, Nat.zero_xor]
  rcases hx with hx | hx <;> rcases hy with hy | hy <;> simp only [hx, hy] <;> simp
  · rw [Nat.xor_assoc]
  · rw [Nat.xor_assoc, Nat.xor_assoc, Nat.xor_comm b]
  · exact (comm _).symm
theorem cbits_xor (k : Nat) (x y : Nat) : cbits k (x ^^^ y) = cbits k x ^^^ cbits k y := by
  induction k with
  | zero => rfl
  | succ k ih => rw [cbits, ih, cbit_xor]; rfl
theorem cbit_low {d m : Nat} (hd : d < 4294967296) (hm : m ≤ 31) (h : cbit d < 2 ^ m) : d = 2 * cbit d := by
  unfold cbit at *
  by_cases h1 : d % 2 = 1
  · rw [if_pos h1] at h
    have top : (d / 2).testBit 31 = false := Nat.testBit_lt_two_pow (by omega)
    have hp : (3988292384 : Nat).testBit 31 = true := by decide
    have hx : ((d / 2) ^^^ 3988292384).testBit 31 = true := by rw [Nat.testBit_xor, top, hp]; rfl
    have hl : ((d / 2) ^^^ 3988292384).testBit 31 = false := Nat.testBit_lt_two_pow (Nat.lt_of_lt_of_le h (Nat.pow_le_pow_right (by omega) hm))
    rw [hx] at hl
    cases hl
  · rw [if_neg h1]
    omega
theorem cbits_low : ∀ (k : Nat) {d m : Nat}, d < 4294967296 → m + k ≤ 32 → cbits k d < 2 ^ m → d = 2 ^ k * cbits k d
  | 0, d, m, _, _, _ => by simp [cbits]
  | k + 1, d, m, hd, hm, h => by
    have h1 : cbits k d = 2 * cbits (k + 1) d := cbit_low (cbits_lt k hd) (by omega) h
    have h2 : cbits k d < 2 ^ (m + 1) := by rw [h1, Nat.pow_succ]; omega
    have h3 := cbits_low k hd (by omega) h2
    conv => lhs; rw [h3, h1]
    rw [Nat.pow_succ, Nat.mul_assoc]
theorem xor_zero_eq {a b : Nat} (h : a ^^^ b = 0) : a = b := by
  have : a ^^^ (a ^^^ b) = a ^^^ 0 := by rw [h]
  rw [← Nat.xor_assoc, Nat.xor_self, Nat.zero_xor, Nat.xor_zero] at this
  exact this.symm
/-- Bytes that end in the same state: the states ahead of them differ low down only. -/
theorem fold_low : ∀ (k : Nat) (x y : List UInt8), x.length = k → y.length = k → k ≤ 3 → ∀ {v u : Nat}, v < 4294967296 → u < 4294967296 → x.foldl cbyte v = y.foldl cbyte u → v ^^^ u < 2 ^ (8 * k)
  | 0, x, y, hx, hy, _, v, u, _, _, h => by
    rw [List.eq_nil_of_length_eq_zero hx, List.eq_nil_of_length_eq_zero hy] at h
    have h : v = u := h
    rw [h, Nat.xor_self]; decide
  | k + 1, [], y, hx, hy, _, v, u, _, _, h => by cases hx
  | k + 1, a :: x, [], hx, hy, _, v, u, _, _, h => by cases hy
  | k + 1, a :: x, b :: y, hx, hy, hk, v, u, hv, hu, h => by
    simp only [List.foldl_cons] at h
    have h1 := fold_low k x y (by simpa using hx) (by simpa using hy) (by omega) (cbyte_lt a hv) (cbyte_lt b hu) h
    unfold cbyte at h1
    rw [← cbits_xor] at h1
    have hab : v ^^^ a.toNat ^^^ (u ^^^ b.toNat) = (v ^^^ u) ^^^ (a.toNat ^^^ b.toNat) := by
      rw [Nat.xor_assoc, Nat.xor_assoc]
      congr 1
      rw [← Nat.xor_assoc, ← Nat.xor_assoc, Nat.xor_comm a.toNat u]
    rw [hab] at h1
    have hs : a.toNat ^^^ b.toNat < 2 ^ 8 := Nat.xor_lt_two_pow (u8_lt a) (u8_lt b)
    have hl := cbits_low 8 (Nat.xor_lt_two_pow (n := 32) (Nat.xor_lt_two_pow (n := 32) hv hu) (Nat.lt_trans hs (by decide))) (by omega) h1
    have h2 : (v ^^^ u) ^^^ (a.toNat ^^^ b.toNat) < 2 ^ (8 * (k + 1)) := by
      rw [hl, show 8 * (k + 1) = 8 + 8 * k by omega, Nat.pow_add]
      exact Nat.mul_lt_mul_of_pos_left h1 (by decide)
    have h3 := Nat.xor_lt_two_pow (n := 8 * (k + 1)) h2 (Nat.lt_of_lt_of_le hs (Nat.pow_le_pow_right (by omega) (by omega) : 2 ^ 8 ≤ 2 ^ (8 * (k + 1))))
    rwa [Nat.xor_assoc, Nat.xor_self, Nat.xor_zero] at h3
/-- Three bytes that turned are seen. -/
theorem fold_three : ∀ (x y : List UInt8), x.length = y.length → x.length ≤ 3 → ∀ {v : Nat}, v < 4294967296 → x.foldl cbyte v = y.foldl cbyte v → x = y
  | [], [], _, _, _, _, _ => rfl
  | [], b :: y, h, _, _, _, _ => by cases h
  | a :: x, [], h, _, _, _, _ => by cases h
  | a :: x, b :: y, hl, hk, v, hv, h => by
    simp only [List.foldl_cons] at h
    have hxy : x.length = y.length := by simpa using hl
    have hx2 : x.length ≤ 2 := by simpa using hk
    have h1 := fold_low x.length x y rfl hxy.symm (by omega) (cbyte_lt a hv) (cbyte_lt b hv) h
    unfold cbyte at h1
    rw [← cbits_xor] at h1
    have hab : v ^^^ a.toNat ^^^ (v ^^^ b.toNat) = a.toNat ^^^ b.toNat := by
      rw [Nat.xor_comm v, Nat.xor_assoc, ← Nat.xor_assoc v v, Nat.xor_self, Nat.zero_xor]
    rw [hab] at h1
    have hs : a.toNat ^^^ b.toNat < 2 ^ 8 := Nat.xor_lt_two_pow (u8_lt a) (u8_lt b)
    have hl8 := cbits_low 8 (Nat.lt_trans hs (by decide)) (by omega) h1
    have hz : a.toNat ^^^ b.toNat = 0 := by omega
    have he : a = b := UInt8.toNat_inj.1 (xor_zero_eq hz)
    subst he
    rw [fold_three x y hxy (by omega) (cbyte_lt a hv) h]
/-- Bytes whose last three at most are others have another sum. -/
theorem sum_tail {p x y : List UInt8} (hl : x.length = y.length) (h3 : x.length ≤ 3) (h : sumOf (p ++ x) = sumOf (p ++ y)) : x = y := by
  have h' := xor_left_inj h
  unfold crc at h'
  rw [List.foldl_append, List.foldl_append] at h'
  exact fold_three x y hl h3 (crc_lt p) h'

theorem fromB_alike {l m : List UInt8} (h : ∀ j, j < 4 → l[j]? = m[j]?) : fromB l = fromB m := by
  rw [fromB_eq, fromB_eq]
  simp only [List.getD_eq_getElem?_getD, h 0 (by omega), h 1 (by omega), h 2 (by omega), h 3 (by omega)]
theorem take_alike {l m : List UInt8} {k : Nat} (h : l.take k = m.take k) : ∀ j, j < k → l[j]? = m[j]? := by
  intro j hj
  have h1 := congrArg (fun x => x[j]?) h
  simpa [List.getElem?_take, hj] using h1
/-- Whole, its bytes say how long they are, and their sum. -/
theorem Bt.Ok.sum {b : Bt} (h : b.Ok) : fromB b.bytes = b.bytes.length ∧ sumOf (b.bytes.drop 8) = fromB (b.bytes.drop 4) := by
  obtain ⟨h0, hl, hf, hp⟩ := decErr_enc h.err
  have e : encAll b.base b.en b.rs = b.bytes := rfl
  rw [e] at h0 hl hf
  have h6 := h.nums.some
  have hL : fromB b.bytes = b.bytes.length := by omega
  refine ⟨hL, ?_⟩
  unfold decErr at h0
  rw [hL] at h0
  rw [if_neg (by omega)] at h0
  by_cases g2 : b.bytes.length < 11 ∨ 6000 < b.bytes.length
  · rw [if_pos g2] at h0; cases h0
  rw [if_neg g2, if_neg (by omega), List.take_length] at h0
  by_cases g4 : sumOf (b.bytes.drop 8) ≠ fromB (b.bytes.drop 4)
  · rw [if_pos g4] at h0; cases h0
  · exact Decidable.not_not.1 g4
theorem decErr_zero {T : List UInt8} (h : decErr T = 0) : 11 ≤ fromB T ∧ fromB T ≤ T.length ∧ sumOf ((T.take (fromB T)).drop 8) = fromB (T.drop 4) := by
  unfold decErr at h
  by_cases g1 : T.length < 8
  · rw [if_pos g1] at h; cases h
  rw [if_neg g1] at h
  by_cases g2 : fromB T < 11 ∨ 6000 < fromB T
  · rw [if_pos g2] at h; cases h
  rw [if_neg g2] at h
  by_cases g3 : T.length < fromB T
  · rw [if_pos g3] at h; cases h
  rw [if_neg g3] at h
  by_cases g4 : sumOf ((T.take (fromB T)).drop 8) ≠ fromB (T.drop 4)
  · rw [if_pos g4] at h; cases h
  exact ⟨by omega, by omega, Decidable.not_not.1 g4⟩
/-- A beginning of a batch, and three bytes at most behind it: a batch only if it is this one. -/
theorem torn_one {b : Bt} (h : b.Ok) {c : Nat} {more : List UInt8} (hm : more.length ≤ 3) (hc : c < b.bytes.length) (hd : decErr ((b.bytes.take c ++ more).take 6000) = 0) : b.bytes.length ≤ c + more.length ∧ (b.bytes.take c ++ more).take b.bytes.length = b.bytes := by
  obtain ⟨d1, d2, d3⟩ := decErr_zero hd
  obtain ⟨s1, s2⟩ := h.sum
  have hn := h.nums
  have hlen := hn.len
  obtain ⟨J, hJ⟩ : ∃ J, b.bytes.take c ++ more = J := ⟨_, rfl⟩
  have hJl : J.length = c + more.length := by rw [← hJ, List.length_append, List.length_take]; omega
  rw [hJ] at d1 d2 d3 ⊢
  rw [List.length_take] at d2
  have hc8 : 8 ≤ c := by omega
  have hsame : ∀ j, j < c → (J.take 6000)[j]? = b.bytes[j]? := by
    intro j hj
    rw [List.getElem?_take, if_pos (by omega), ← hJ, List.getElem?_append_left (by rw [List.length_take]; omega), List.getElem?_take, if_pos hj]
  have hf : fromB (J.take 6000) = b.bytes.length := by
    rw [← s1]
    exact fromB_alike fun j hj => hsame j (by omega)
  have hf4 : fromB ((J.take 6000).drop 4) = fromB (b.bytes.drop 4) := by
    refine fromB_alike fun j hj => ?_
    rw [List.getElem?_drop, List.getElem?_drop]
    exact hsame _ (by omega)
  rw [hf] at d1 d2 d3
  rw [hf4, ← s2] at d3
  have hL : b.bytes.length ≤ c + more.length := by omega
  refine ⟨hL, ?_⟩
  have e1 : (J.take 6000).take b.bytes.length = J.take b.bytes.length := by rw [List.take_take, Nat.min_eq_left hlen]
  have e2 : J.take b.bytes.length = b.bytes.take c ++ more.take (b.bytes.length - c) := by
    have hcl : (b.bytes.take c).length = c := by rw [List.length_take]; omega
    rw [← hJ, List.take_append, List.take_of_length_le (by omega), hcl]
  rw [e1, e2, List.drop_append_of_le_length (by rw [List.length_take]; omega)] at d3
  have e3 : b.bytes.drop 8 = (b.bytes.take c).drop 8 ++ b.bytes.drop c := by
    conv => lhs; rw [← List.take_append_drop c b.bytes]
    rw [List.drop_append_of_le_length (by rw [List.length_take]; omega)]
  rw [e3] at d3
  have hx := sum_tail (by rw [List.length_take, List.length_drop]; omega) (by rw [List.length_take]; omega) d3
  rw [e2, hx, List.take_append_drop]
/-- Of a file whose end was torn off, and three bytes at most put behind it, there are just the batches that are whole. -/
theorem torn_end {l : List Bt} (hok : ∀ b ∈ l, b.Ok) {cut n : Nat} {more F : List UInt8} (hm : more.length ≤ 3) (hc : cut ≤ (batBs l).length) (hn : n ≤ l.length) (hF : F = (batBs l).take cut ++ more)
    (hpre : F.take (batBs (l.take n)).length = batBs (l.take n))
    (hmax : n < l.length → ¬ F.take (batBs (l.take (n + 1))).length = batBs (l.take (n + 1))) :
    ∃ junk, F = batBs (l.take n) ++ junk ∧ (junk ≠ [] → decErr (junk.take 6000) ≠ 0) := by
  refine ⟨F.drop (batBs (l.take n)).length, ?_, fun _ hd => ?_⟩
  · conv => lhs; rw [← List.take_append_drop (batBs (l.take n)).length F, hpre]
  · obtain ⟨sz, hsz⟩ : ∃ sz, (batBs (l.take n)).length = sz := ⟨_, rfl⟩
    have hFl : F.length = cut + more.length := by rw [hF, List.length_append, List.length_take]; omega
    obtain ⟨d1, d2, d3⟩ := decErr_zero hd
    rw [List.length_take, List.length_drop, hsz] at d2
    rw [hsz] at d1
    have hcut : sz + 8 ≤ cut := by omega
    have hnl : n < l.length := by
      rcases Nat.lt_or_ge n l.length with h | h
      · exact h
      · rw [List.take_of_length_le h] at hsz
        omega
    have hmx := hmax hnl
    have hb := hok _ (List.getElem_mem hnl)
    have e : batBs l = batBs (l.take n) ++ (l[n].bytes ++ batBs (l.drop (n + 1))) := by
      have e : l = l.take n ++ l[n] :: l.drop (n + 1) := by rw [List.getElem_cons_drop, List.take_append_drop]
      conv => lhs; rw [e]
      rw [batBs_append, batBs_cons]
    have e1 : batBs (l.take (n + 1)) = batBs (l.take n) ++ l[n].bytes := by rw [List.take_succ_eq_append_getElem hnl, batBs_snoc]
    have e0 : F = batBs (l.take n) ++ ((l[n].bytes ++ batBs (l.drop (n + 1))).take (cut - sz) ++ more) := by
      rw [hF, e, List.take_append, List.take_of_length_le (by omega), hsz, List.append_assoc]
    have e2 : F.drop (batBs (l.take n)).length = (l[n].bytes ++ batBs (l.drop (n + 1))).take (cut - sz) ++ more := by rw [e0, List.drop_left' rfl]
    have e3 : F.take (batBs (l.take (n + 1))).length = batBs (l.take n) ++ ((l[n].bytes ++ batBs (l.drop (n + 1))).take (cut - sz) ++ more).take l[n].bytes.length := by
      rw [e1, List.length_append]
      conv => lhs; rw [e0]
      rw [List.take_append, List.take_of_length_le (by omega)]
      congr 2
      omega
    rw [e3, e1] at hmx
    rw [e2] at hd
    rcases Nat.lt_or_ge (cut - sz) l[n].bytes.length with h | h
    · have e5 : (l[n].bytes ++ batBs (l.drop (n + 1))).take (cut - sz) = l[n].bytes.take (cut - sz) := List.take_append_of_le_length (by omega)
      rw [e5] at hd hmx
      exact hmx (by rw [(torn_one hb hm h hd).2])
    · refine hmx ?_
      rw [List.take_append_of_le_length (by rw [List.length_take, List.length_append]; omega), List.take_take, Nat.min_eq_left h, List.take_left' rfl]

/-- How many batches are whole. -/
theorem whole_count (P : Nat → Prop) [DecidablePred P] (L : Nat) (h0 : P 0) : ∃ n, n ≤ L ∧ (∀ k, k ≤ n → P k) ∧ (n < L → ¬ P (n + 1)) := by
  have key : ∀ m k, k + m = L → (∀ j, j ≤ k → P j) → ∃ n, n ≤ L ∧ (∀ k, k ≤ n → P k) ∧ (n < L → ¬ P (n + 1)) := by
    intro m
    induction m with
    | zero => intro k hk hp; exact ⟨k, by omega, hp, fun h => by omega⟩
    | succ m ih =>
      intro k hk hp
      by_cases hn : P (k + 1)
      · exact ih (k + 1) (by omega) (fun j hj => by rcases Nat.lt_or_ge j (k + 1) with h | h; exact hp j (by omega); rw [show j = k + 1 by omega]; exact hn)
      · exact ⟨k, by omega, hp, fun _ => hn⟩
  exact key L 0 (by omega) (fun j hj => by rw [show j = 0 by omega]; exact h0)
theorem One.cut {d : Dk} {room : Nat} {nm : Nm} {bs : List UInt8} (h : One d room nm bs) {k : Nat} (hk : k ≤ bs.length) : ∃ d', d.cut nm (k : Nat) = (0, d') ∧ One d' room nm (bs.take k) := by
  obtain ⟨sf, hf⟩ := h.find
  obtain ⟨sf2, hfs⟩ := h.fs
  unfold Dk.cut Dk.at
  rw [if_neg (by rw [does_true h.left]; simp), hf, step_same h.left]
  simp only
  rw [if_neg (by omega)]
  refine ⟨_, rfl, ⟨min sf k, ?_⟩, h.room, h.left⟩
  show (d.turn nm ⟨bs.take ((k : Int)).toNat, min sf ((k : Int)).toNat⟩).fs = _
  rw [Int.toNat_natCast]
  unfold Dk.turn
  rw [hfs]
  simp
theorem readGo_all : ∀ (l : List Bt) (f : Bool) (m : Int), ((batBs l).length : Int) ≤ m → m ≤ 9223372036854775807 → readGo f m l = l
  | [], _, _, _, _ => rfl
  | b :: l, f, m, h, hm => by
    rw [batBs_cons, List.length_append] at h
    unfold readGo
    rw [if_neg (by intro hh; have := hh.2; omega)]
    have e : wrap64 (m - (b.bytes.length : Nat)) = m - (b.bytes.length : Nat) := by unfold wrap64; omega
    first
      | rw [e, readGo_all l false _ (by omega) (by omega)]
      | rw [readGo_all l false _ (by omega) (by omega)]
theorem readL_all {base : Int} {l : List Bt} (hok : ∀ b ∈ l, b.Ok) (hup : rising base l) {m : Int} (h : ((batBs l).length : Int) ≤ m) (hm : m ≤ 9223372036854775807) : readL l base m = l := by
  have e : l.dropWhile (fun b => decide (b.en ≤ base)) = l := by
    cases l with
    | nil => rfl
    | cons b l =>
      have h1 := (hok b (List.mem_cons_self ..)).nums.lt
      have h2 := hup.1
      rw [List.dropWhile_cons_of_neg (by simp; omega)]
  unfold readL
  rw [e]
  exact readGo_all l true m h hm
theorem read_whole {d : Dk} {room : Nat} {nm : Nm} {bs : List UInt8} (h : One d room nm bs) (hl : bs.length ≤ 1048576) : d.read nm 0 1048576 = bs := by
  obtain ⟨sf, hf⟩ := h.find
  unfold Dk.read
  rw [hf]
  show readOf bs 0 1048576 = bs
  unfold readOf
  rw [if_neg (by omega)]
  simp only [Int.toNat_zero, List.drop_zero]
  exact List.take_of_length_le (by omega)
theorem batBs_at (l : List Bt) (n : Nat) : (batBs l).take (batBs (l.take n)).length = batBs (l.take n) := by
  conv => lhs; rw [← List.take_append_drop n l, batBs_append]
  rw [List.take_left' (by rw [List.take_append_drop])]
theorem batBs_take_le (l : List Bt) (n : Nat) : (batBs (l.take n)).length ≤ (batBs l).length := by
  conv => rhs; rw [← List.take_append_drop n l, batBs_append, List.length_append]
  omega
theorem batBs_lim : ∀ {l : List Bt}, (∀ b ∈ l, b.Ok) → (batBs l).length ≤ 6000 * l.length
  | [], _ => Nat.zero_le _
  | b :: l, h => by
    have h1 := (h b (List.mem_cons_self ..)).nums.len
    have h2 := batBs_lim (fun b hb => h b (List.mem_cons_of_mem _ hb))
    rw [batBs_cons, List.length_append, List.length_cons]
    omega
end Go.Proofs.YtmaomebnigcgeaaGreatDoor

/-
  What SegmentTears keeps in memory: sizes, batches, a segment. (Of the segments' seat.)
-/
set_option linter.unusedSimpArgs false
set_option linter.unusedVariables false
namespace Go.Proofs.YtmaomebnigcgeaaGreatDoor
open Go.RowKit Go.Maps

/-- Rows of different kinds lie apart. -/
theorem rows_ne {w : World} {e1 e2 : TypeId} {z1 z2 n1 n2 : Nat} {v u : Value} {xs ys : List Value} (h1 : w.ownsRow 0 e1 z1 v n1 xs) (h2 : w.ownsRow 0 e2 z2 u n2 ys) (hne : e1 ≠ e2) : ∀ k, v.ownBlock = some k → u.ownBlock ≠ some k := by
  intro k hv hu
  rcases h1.2 with ⟨rfl, _⟩ | ⟨g, cap, cur, rfl, _, hg, _⟩
  · cases hv
  · obtain rfl : g = k := Option.some.inj hv
    rcases h2.2 with ⟨rfl, _⟩ | ⟨g', cap', cur', rfl, _, hg', _⟩
    · cases hu
    · obtain rfl : g' = g := Option.some.inj hu
      rw [hg] at hg'
      exact hne (Obj.cells.inj (Option.some.inj hg')).2.1
theorem box_row_ne {w : World} {g : Nat} {cs : List Value} {t e : TypeId} {sz n : Nat} {v : Value} {xs : List Value} (hb : Box w g cs t) (h : w.ownsRow 0 e sz v n xs) (hne : t ≠ e) : ¬ v.ownBlock = some g := by
  intro hk
  rcases h.2 with ⟨rfl, _⟩ | ⟨g', cap, cur, rfl, _, hg, _⟩
  · cases hk
  · obtain rfl : g' = g := Option.some.inj hk
    have hq : w.heap[g']? = _ := hb
    rw [hq] at hg
    exact hne (Obj.cells.inj (Option.some.inj hg)).2.1
/-- A slice of numbers that is the call's own. -/
def OwnI (w : World) (v : Value) (l : List Nat) : Prop := w.ownsRow 0 3 1 v l.length (l.map fun n => Value.int .i64 (n : Nat))
theorem OwnI.form {w : World} {v : Value} {l : List Nat} (h : OwnI w v l) : v = .slice (vA v) l.length (vC v) := by
  rcases h.2 with ⟨rfl, hn⟩ | ⟨g, cap, cur, rfl, _, _, hle, _⟩
  · rw [hn]; rfl
  · rfl
theorem OwnI.lt {w : World} {v : Value} {l : List Nat} (h : OwnI w v l) : ∀ k, v.ownBlock = some k → k < w.heap.size := ownsRow_lt h
theorem OwnI.val {w : World} {v : Value} {l : List Nat} (h : OwnI w v l) : ∃ a cap, v = .slice a l.length cap ∧ l.length ≤ cap ∧ ∀ i (h : i < l.length), ∃ g, a = some ⟨g, 0, none⟩ ∧ w.cell? ⟨g, i, none⟩ = some (.int .i64 (l[i] : Nat)) := by
  rcases h.2 with ⟨rfl, hn⟩ | ⟨g, cap, cur, rfl, _, _, hle, _⟩
  · exact ⟨none, 0, by rw [hn], by omega, fun i hi => absurd hi (by omega)⟩
  · have e1 : ∀ j, (⟨g, 0, none⟩ : Addr).add j = ⟨g, j, none⟩ := fun j => by unfold Addr.add; split <;> simp_all
    refine ⟨some ⟨g, 0, none⟩, cap, rfl, hle, fun i hi => ⟨g, rfl, ?_⟩⟩
    have := World.ownsRow.cells h (g := g) rfl i (.int .i64 (l[i] : Nat)) (by rw [List.getElem?_map, List.getElem?_eq_getElem hi]; rfl)
    rwa [e1] at this
theorem intT : SliceT Tryz.prog 63 3 1 8 :=
  ⟨Tryz.underlying63, by
    have h : (Tryz.prog.info? 3).map (fun i => (i.zero, i.size, i.bytes)) = some (some (.int .i64 0), 1, 8) := by kernel_rfl
    obtain ⟨i, hi, hz, h1, h2⟩ := info_parts h
    exact ⟨i, _, hi, hz, rfl, h1, h2⟩⟩
/-- Where each batch ends, the beginning ahead of them. -/
def szsOf (ms : List Bm) : List Nat := (List.range (ms.length + 1)).map fun k => (batBs ((ms.take k).map Bm.b)).length
theorem szsOf_len (ms : List Bm) : (szsOf ms).length = ms.length + 1 := by unfold szsOf; rw [List.length_map, List.length_range]
theorem szsOf_get (ms : List Bm) (k : Nat) (h : k < (szsOf ms).length) : (szsOf ms)[k] = (batBs ((ms.take k).map Bm.b)).length := by
  simp [szsOf]
theorem szsOf_snoc (ms : List Bm) (m : Bm) : szsOf (ms ++ [m]) = szsOf ms ++ [(batBs ((ms ++ [m]).map Bm.b)).length] := by
  unfold szsOf
  rw [List.length_append, List.length_singleton, List.range_succ, List.map_append, List.map_singleton]
  congr 1
  · apply List.map_congr_left
    intro k hk
    rw [List.take_append_of_le_length (by have := List.mem_range.1 hk; omega)]
  · congr 2
    rw [List.take_of_length_le (by rw [List.length_append, List.length_singleton]; omega)]
/-- A segment, and what it has. -/
def SgI (B : Nat → Prop) (w : World) (p s : Nat) (S : Nat → Prop) (v : Value) (nm : Nm) (base : Int) (l : List Bt) : Prop :=
  ∃ d g, SgS B w p s S v d g ∧ One d 1048576 nm (batBs l) ∧ SgOf g l ∧ g.name = nm ∧ g.base = base
theorem SgI.nil {B : Nat → Prop} {w w' : World} {p s : Nat} {S : Nat → Prop} {v : Value} {nm : Nm} {base : Int} {l : List Bt} (h : SgI B w p s S v nm base l) (hc : Chg Nil w w') : SgI B w' p s S v nm base l := by
  obtain ⟨d, g, h1, h2⟩ := h
  exact ⟨d, g, h1.nil hc, h2⟩
theorem SgS.growC {B : Nat → Prop} {w w' : World} {p s : Nat} {S : Nat → Prop} {v : Value} {d : Dk} {g : Sg} (h : SgS B w p s S v d g) (hc : Chg B w w') : SgS (fun k => B k ∨ (w.heap.size ≤ k ∧ k < w'.heap.size)) w' p s S v d g := by
  have h2 := h.kept hc
  refine ⟨fun k hk => hk.elim (h2.lo k) (·.2), h2.a, h2.m, h2.ap, fun k hk => ⟨?_, (h2.sl k hk).2⟩, fun k hk => ?_⟩
  · rintro (hb | hb)
    · exact (h2.sl k hk).1 hb
    · have := (h.sl k hk).2; omega
  · rintro (hb | hb)
    · exact h2.ml k hk hb
    · have := h.m.lt k hk; omega
theorem SgI.grow {B : Nat → Prop} {w w' : World} {p s : Nat} {S : Nat → Prop} {v : Value} {nm : Nm} {base : Int} {l : List Bt} (h : SgI B w p s S v nm base l) (hc : Chg B w w') : SgI (fun k => B k ∨ (w.heap.size ≤ k ∧ k < w'.heap.size)) w' p s S v nm base l := by
  obtain ⟨d, g, h1, h2⟩ := h
  exact ⟨d, g, h1.growC hc, h2⟩
theorem SgI.lo {B : Nat → Prop} {w : World} {p s : Nat} {S : Nat → Prop} {v : Value} {nm : Nm} {base : Int} {l : List Bt} (h : SgI B w p s S v nm base l) : ∀ k, B k → k < w.heap.size := by
  obtain ⟨d, g, h1, h2⟩ := h
  exact h1.lo
theorem SgI.nums {B : Nat → Prop} {w : World} {p s : Nat} {S : Nat → Prop} {v : Value} {nm : Nm} {base : Int} {l : List Bt} (h : SgI B w p s S v nm base l) : (∀ b ∈ l, b.Ok) ∧ rising base l := by
  obtain ⟨d, g, h1, h2, h3, h4, h5⟩ := h
  exact ⟨h3.ok, h5 ▸ h3.up⟩
/-- Next, Size, Batches of it. -/
theorem SgI.next {B : Nat → Prop} {w : World} {p s : Nat} {S : Nat → Prop} {v : Value} {nm : Nm} {base : Int} {l : List Bt} (h : SgI B w p s S v nm base l) (hl : l.length ≤ 1000) :
    Calls Tryz.prog 18 #[.pointer (some ⟨s, 0, none⟩)] w fun e w' => e = .returned (.int .i64 (lastEnd base l)) ∧ Chg Nil w w' := by
  obtain ⟨d, g, h1, h2, h3, h4, h5⟩ := h
  have h6 := snext_any h1.m (by rw [h3.pls, plsOf_length]; omega)
  rw [h3.next, h5] at h6
  exact h6
theorem SgI.size {B : Nat → Prop} {w : World} {p s : Nat} {S : Nat → Prop} {v : Value} {nm : Nm} {base : Int} {l : List Bt} (h : SgI B w p s S v nm base l) :
    Calls Tryz.prog 19 #[.pointer (some ⟨s, 0, none⟩)] w fun e w' => e = .returned (.int .i64 ((batBs l).length : Nat)) ∧ Chg Nil w w' := by
  obtain ⟨d, g, h1, h2, h3, h4, h5⟩ := h
  refine (ssize_any h1.m).mono ?_
  rintro e w' ⟨h6, h7⟩
  rw [h7, h6, h3.size]
  exact ⟨rfl, Chg.refl _ _⟩
theorem SgI.batches {B : Nat → Prop} {w : World} {p s : Nat} {S : Nat → Prop} {v : Value} {nm : Nm} {base : Int} {l : List Bt} (h : SgI B w p s S v nm base l) :
    Calls Tryz.prog 20 #[.pointer (some ⟨s, 0, none⟩)] w fun e w' => e = .returned (.int .i64 (l.length : Nat)) ∧ Chg Nil w w' := by
  obtain ⟨d, g, h1, h2, h3, h4, h5⟩ := h
  refine (sbatches_any h1.m).mono ?_
  rintro e w' ⟨h6, h7⟩
  rw [h7, h6, h3.pls, plsOf_length]
  exact ⟨rfl, Chg.refl _ _⟩
/-- A batch of records put behind the last one: if it may be, it is there; if not, all is as it was. -/
theorem SgI.add {B : Nat → Prop} {w : World} {p s : Nat} {S : Nat → Prop} {v : Value} {nm : Nm} {base : Int} {l : List Bt} (h : SgI B w p s S v nm base l) (hnm : nm.length ≤ 1000) (hl : l.length ≤ 100) (h0 : 0 ≤ base) (hhi : lastEnd base l ≤ 1099511627776)
    (u : Value) (rs : List Rec) (hu : OwnR 55 w u (numbered (lastEnd base l) rs)) (hub : ∀ k, u.ownBlock = some k → B k) (hrl : rs.length ≤ 100) (hok : ∀ r ∈ rs, Rec.Ok r) :
    Calls Tryz.prog 12 #[.pointer (some ⟨s, 0, none⟩), .agg #[.int .i64 (lastEnd base l), .int .i64 (lastEnd base l + rs.length), .slice (vA u) (numbered (lastEnd base l) rs).length (vC u)]] w fun e w' =>
      e = .returned (errD (encErr (lastEnd base l) (lastEnd base l + rs.length) (numbered (lastEnd base l) rs))) ∧
      (encErr (lastEnd base l) (lastEnd base l + rs.length) (numbered (lastEnd base l) rs) ≠ 0 → ∃ S' v', SgI B w' p s S' v' nm base l) ∧
      (encErr (lastEnd base l) (lastEnd base l + rs.length) (numbered (lastEnd base l) rs) = 0 → ∃ S' v', SgI B w' p s S' v' nm base (l ++ [⟨lastEnd base l, lastEnd base l + rs.length, numbered (lastEnd base l) rs⟩])) ∧ Chg (Off B) w w' := by
  obtain ⟨d, g, h1, h2, h3, h4, h5⟩ := h
  have hb0 : base ≤ lastEnd base l := (lastEnd_le h3.ok (h5 ▸ h3.up)).1
  have hnx : g.next = lastEnd base l := by rw [h3.next, h5]
  obtain ⟨nx, hn⟩ : ∃ nx, lastEnd base l = nx := ⟨_, rfl⟩
  rw [hn] at hhi hu hb0 hnx ⊢
  obtain ⟨ua, uc, hue, hrecs, hule⟩ := hu.recs
  have hua : vA u = ua := by rw [hue]; rfl
  have huc : vC u = uc := by rw [hue]; rfl
  rw [hua, huc]
  have hnl : (numbered nx rs).length = rs.length := numbered_length nx rs
  have hnok : ∀ r ∈ numbered nx rs, Rec.Ok r := numbered_ok' (by omega) (by omega) hok
  have hlim := batBs_lim h3.ok
  have hsz := h3.size
  have hA := sadd_any h1 (by rw [h4]; exact hnm) (by rw [h3.pls, plsOf_length]; omega) (by omega) nx (nx + rs.length) ua (numbered nx rs) uc (by omega) (by omega) (by omega) hnok hrecs (fun hne x hx hs => by
    refine (h1.sl _ hs).1 (hub x.block ?_)
    rcases hu.2 with ⟨hz, hn0⟩ | ⟨g', cap', cur', hz, _⟩
    · rw [hz] at hue
      have := (Value.slice.inj hue).1
      rw [← this] at hx
      cases hx
    · rw [hz] at hue ⊢
      have := (Value.slice.inj hue).1
      rw [← this] at hx
      obtain rfl := Option.some.inj hx
      rfl) (fun he => (Bt.Ok.nums (b := ⟨nx, nx + rs.length, numbered nx rs⟩) ⟨he, hnok⟩).len)
  refine hA.mono ?_
  rintro e w' ⟨he, ⟨S', v', h6⟩, h7⟩
  by_cases hk : encErr nx (nx + rs.length) (numbered nx rs) = 0
  · have hb : Bt.Ok ⟨nx, nx + rs.length, numbered nx rs⟩ := ⟨hk, hnok⟩
    have h8 := addSg_ok (d := d) (g := g) hb (by rw [hnx]; exact Int.le_refl nx)
    have hbl := hb.nums.len
    obtain ⟨d', hd', ho'⟩ := (h2.add (Bt.bytes ⟨nx, nx + rs.length, numbered nx rs⟩)).2 (by omega)
    rw [h4, hd', if_pos rfl] at h8
    have h9 : addSg d g nx (nx + rs.length) (numbered nx rs) = _ := h8
    rw [h9] at he h6
    refine ⟨by rw [he, hk], fun hne => absurd hk hne, fun _ => ⟨S', v', _, _, h6, ?_, h3.noted hb (by rw [hnx]; exact Int.le_refl nx), h4, h5⟩, h7⟩
    rw [batBs_snoc]
    exact ho'
  · have h9 : addSg d g nx (nx + rs.length) (numbered nx rs) = (encErr nx (nx + rs.length) (numbered nx rs), d, g) := by unfold addSg; rw [if_pos hk]
    rw [h9] at he h6
    exact ⟨he, fun _ => ⟨S', v', d, g, h6, h2, h3, h4, h5⟩, fun h => absurd h hk, h7⟩
/-- What the law keeps: sizes and batches. -/
structure TrK (n0 : Nat) (w : World) (B : Nat → Prop) (sv av : Value) (ms : List Bm) : Prop where
  sz : OwnI w sv (szsOf ms)
  al : OwnM w av ms
  rcs : ∀ m ∈ ms, OwnR 55 w (.slice m.ra m.b.rs.length m.rc) m.b.rs ∧ ∀ k, (Value.slice m.ra m.b.rs.length m.rc).ownBlock = some k → B k
  b0 : ∀ k, k < n0 → B k
  bs : ∀ k, sv.ownBlock = some k → B k ∧ n0 ≤ k
  ba : ∀ k, av.ownBlock = some k → B k ∧ n0 ≤ k
theorem OwnR.chg {S : Nat → Prop} {w w' : World} {e : TypeId} {v : Value} {rs : List Rec} (h : OwnR e w v rs) (hc : Chg S w w') (hn : ∀ k, v.ownBlock = some k → ¬ S k) : OwnR e w' v rs := ownsRow_chg h hc hn
theorem TrK.nil {n0 : Nat} {w w' : World} {B : Nat → Prop} {sv av : Value} {ms : List Bm} (h : TrK n0 w B sv av ms) (hc : Chg Nil w w') : TrK n0 w' B sv av ms :=
  ⟨ownsRow_chg h.sz hc (fun _ _ h => h), ownsRow_chg h.al hc (fun _ _ h => h), fun m hm => ⟨(h.rcs m hm).1.chg hc (fun _ _ h => h), (h.rcs m hm).2⟩, h.b0, h.bs, h.ba⟩
/-- New blocks are kept from now on. -/
theorem TrK.grow {n0 : Nat} {w w' : World} {B : Nat → Prop} {sv av : Value} {ms : List Bm} (h : TrK n0 w B sv av ms) (hc : Chg Nil w w') : TrK n0 w' (fun k => B k ∨ (w.heap.size ≤ k ∧ k < w'.heap.size)) sv av ms :=
  ⟨ownsRow_chg h.sz hc (fun _ _ h => h), ownsRow_chg h.al hc (fun _ _ h => h), fun m hm => ⟨(h.rcs m hm).1.chg hc (fun _ _ h => h), fun k hk => .inl ((h.rcs m hm).2 k hk)⟩, fun k hk => .inl (h.b0 k hk), fun k hk => ⟨.inl (h.bs k hk).1, (h.bs k hk).2⟩, fun k hk => ⟨.inl (h.ba k hk).1, (h.ba k hk).2⟩⟩
/-- What the segment does: none of what is kept is changed. -/
theorem TrK.off {n0 : Nat} {w w' : World} {B : Nat → Prop} {sv av : Value} {ms : List Bm} (h : TrK n0 w B sv av ms) (hc : Chg (Off B) w w') : TrK n0 w' B sv av ms :=
  ⟨ownsRow_chg h.sz hc (fun k hk hn => hn (h.bs k hk).1), ownsRow_chg h.al hc (fun k hk hn => hn (h.ba k hk).1), fun m hm => ⟨(h.rcs m hm).1.chg hc (fun k hk hn => hn ((h.rcs m hm).2 k hk)), (h.rcs m hm).2⟩, h.b0, h.bs, h.ba⟩
theorem SgI.kept {B : Nat → Prop} {w w' : World} {p s : Nat} {S : Nat → Prop} {v : Value} {nm : Nm} {base : Int} {l : List Bt} (h : SgI B w p s S v nm base l) (hc : Chg B w w') : SgI B w' p s S v nm base l := by
  obtain ⟨d, g, h1, h2⟩ := h
  exact ⟨d, g, h1.kept hc, h2⟩
/-- Ahead of the two appends, between them, behind both. -/
def TaF (n9 : Nat) (sv av : Value) (ms : List Bm) (m : Bm) : List Value → World → Prop
  | [], w => OwnI w sv (szsOf ms) ∧ OwnM w av ms
  | [v], w => (OwnI w v (szsOf (ms ++ [m])) ∧ ∀ k, v.ownBlock = some k → sv.ownBlock = some k ∨ n9 ≤ k) ∧ OwnM w av ms
  | v :: u :: _, w => (OwnI w v (szsOf (ms ++ [m])) ∧ ∀ k, v.ownBlock = some k → sv.ownBlock = some k ∨ n9 ≤ k) ∧ (OwnM w u (ms ++ [m]) ∧ ∀ k, u.ownBlock = some k → av.ownBlock = some k ∨ n9 ≤ k)
theorem TaF.nil {n9 : Nat} {sv av : Value} {ms : List Bm} {m : Bm} {w w' : World} (hc : Chg Nil w w') : ∀ vs, TaF n9 sv av ms m vs w → TaF n9 sv av ms m vs w'
  | [], h => ⟨ownsRow_chg h.1 hc (fun _ _ h => h), ownsRow_chg h.2 hc (fun _ _ h => h)⟩
  | [_], h => ⟨⟨ownsRow_chg h.1.1 hc (fun _ _ h => h), h.1.2⟩, ownsRow_chg h.2 hc (fun _ _ h => h)⟩
  | _ :: _ :: _, h => ⟨⟨ownsRow_chg h.1.1 hc (fun _ _ h => h), h.1.2⟩, ⟨ownsRow_chg h.2.1 hc (fun _ _ h => h), h.2.2⟩⟩
/-- A batch that was added stands in the law's lists too. -/
theorem TrK.more {n0 : Nat} {w w' : World} {B : Nat → Prop} {sv av sv' av' : Value} {ms : List Bm} {m : Bm} (h : TrK n0 w B sv av ms) (hn0 : n0 ≤ w.heap.size)
    (hm : OwnR 55 w (.slice m.ra m.b.rs.length m.rc) m.b.rs) (hmb : ∀ k, (Value.slice m.ra m.b.rs.length m.rc).ownBlock = some k → B k)
    (hc : Chg (fun k => sv.ownBlock = some k ∨ av.ownBlock = some k) w w') (hF : TaF w.heap.size sv av ms m [sv', av'] w') :
    TrK n0 w' (fun k => B k ∨ (w.heap.size ≤ k ∧ k < w'.heap.size)) sv' av' (ms ++ [m]) := by
  have hap : ∀ m' : Bm, OwnR 55 w (.slice m'.ra m'.b.rs.length m'.rc) m'.b.rs → OwnR 55 w' (.slice m'.ra m'.b.rs.length m'.rc) m'.b.rs := by
    intro m' h1
    refine h1.chg hc fun k hk hs => ?_
    rcases hs with hs | hs
    · exact rows_ne h1 h.sz (by decide) k hk hs
    · exact rows_ne h1 h.al (by decide) k hk hs
  refine ⟨hF.1.1, hF.2.1, fun m' hm' => ?_, fun k hk => .inl (h.b0 k hk), fun k hk => ?_, fun k hk => ?_⟩
  · rcases List.mem_append.1 hm' with hm' | hm'
    · exact ⟨hap m' (h.rcs m' hm').1, fun k hk => .inl ((h.rcs m' hm').2 k hk)⟩
    · rw [List.mem_singleton.1 hm']
      exact ⟨hap m hm, fun k hk => .inl (hmb k hk)⟩
  · rcases hF.1.2 k hk with h1 | h1
    · exact ⟨.inl (h.bs k h1).1, (h.bs k h1).2⟩
    · exact ⟨.inr ⟨h1, hF.1.1.lt k hk⟩, by omega⟩
  · rcases hF.2.2 k hk with h1 | h1
    · exact ⟨.inl (h.ba k h1).1, (h.ba k h1).2⟩
    · exact ⟨.inr ⟨h1, hF.2.1.lt k hk⟩, by omega⟩
theorem TrK.keeps {n0 : Nat} {w : World} {B : Nat → Prop} {sv av : Value} {ms : List Bm} (h : TrK n0 w B sv av ms) : ∀ k, (sv.ownBlock = some k ∨ av.ownBlock = some k) → B k ∧ n0 ≤ k ∧ k < w.heap.size := by
  rintro k (hk | hk)
  · exact ⟨(h.bs k hk).1, (h.bs k hk).2, h.sz.lt k hk⟩
  · exact ⟨(h.ba k hk).1, (h.ba k hk).2, h.al.lt k hk⟩
def vU : Value → Value | .agg a => a.getD 2 undef | _ => undef
def vP : Value → Nat | .pointer (some a) => a.block | _ => 0
def BatP (n : Nat) (nx : Int) (rs : List Rec) (v : Value) (w : World) : Prop :=
  v = .agg #[.int .i64 nx, .int .i64 (nx + rs.length), .slice (vA (vU v)) (numbered nx rs).length (vC (vU v))] ∧ OwnR 55 w (vU v) (numbered nx rs) ∧ ∀ k, (vU v).ownBlock = some k → n ≤ k
theorem BatP.nil {n : Nat} {nx : Int} {rs : List Rec} {v : Value} {w w' : World} (h : BatP n nx rs v w) (hc : Chg Nil w w') : BatP n nx rs v w' := ⟨h.1, h.2.1.chg hc (fun _ _ h => h), h.2.2⟩
def NewP (n : Nat) (cs : List Value) (t : TypeId) (v : Value) (w : World) : Prop := v = .pointer (some ⟨vP v, 0, none⟩) ∧ n ≤ vP v ∧ Box w (vP v) cs t
theorem NewP.nil {n : Nat} {cs : List Value} {t : TypeId} {v : Value} {w w' : World} (h : NewP n cs t v w) (hc : Chg Nil w w') : NewP n cs t v w' := ⟨h.1, h.2.1, h.2.2.chg hc (fun h => h)⟩
def NewS (n m : Nat) (cs : List Value) (t : TypeId) (v : Value) (w : World) : Prop := ∃ q, v = .slice (some ⟨q, 0, none⟩) m m ∧ n ≤ q ∧ Box w q cs t
theorem NewS.keep {n m : Nat} {cs : List Value} {t : TypeId} {S : Nat → Prop} (hS : ∀ k, S k → k < n) {v : Value} {w w' : World} (h : NewS n m cs t v w) (hc : Chg S w w') : NewS n m cs t v w' := by
  obtain ⟨q, h1, h2, h3⟩ := h
  exact ⟨q, h1, h2, h3.chg hc (fun hs => by have := hS q hs; omega)⟩
/-- A list of records among the arguments. -/
structure Rl where
  ra : Option Addr
  rs : List Rec
  rc : Nat
def RlsAt (w : World) (xa : Option Addr) (xs : List Rl) : Prop := ∀ i (h : i < xs.length), ∃ b off, xa = some ⟨b, off, none⟩ ∧ w.cell? ⟨b, off + i, none⟩ = some (.slice xs[i].ra xs[i].rs.length xs[i].rc)
structure Rl.Ok (w : World) (p : Rl) : Prop where
  recs : RecsAt w p.ra p.rs
  rok : ∀ r ∈ p.rs, Rec.Ok r
end Go.Proofs.YtmaomebnigcgeaaGreatDoor

/-
  The walks of the two readings of a segment's file's name.
-/
set_option linter.unusedSimpArgs false
set_option linter.unusedVariables false
namespace Go.Proofs.YtmaomebnigcgeaaGreatDoor
open Go.RowKit Go.Shelf Go.Lib

theorem bytes_eqT {a b : ByteArray} (h : a = b) : (a.toList == b.toList) = true := by rw [h]; simp
theorem bytes_eqF {a b : ByteArray} (h : a ≠ b) : (a.toList == b.toList) = false := by
  rw [beq_eq_false_iff_ne]
  intro e
  rw [ByteArray.toList_eq, ByteArray.toList_eq] at e
  exact h (ba_eq e)

theorem chg_bytes {w w' : World} {T : TypeId} (h : w' = w ∨ ∃ t, w' = Lib.bytesWorld w T t) : Chg Nil w w' := by
  rcases h with rfl | ⟨t, rfl⟩
  · exact Chg.refl _ _
  · exact Chg.of_below (Lib.bytesWorld_below _ _ _) _


theorem atoi_any {w : World} (hT : TabE w) (s : ByteArray) (hs : s.size ≤ 1000) :
    Calls Tryz.prog 76 #[.string s] w fun e w' => Chg Nil w w' ∧
      ((∃ v, atoiAll s.data.toList = .ok v ∧ e = .returned (.tuple #[.int .i64 v, .nilIface])) ∨
       ((∀ v, atoiAll s.data.toList ≠ .ok v) ∧ ∃ v t N, e = .returned (.tuple #[.int .i64 v, .iface t (.pointer (some ⟨N, 0, none⟩))]))) := by
  rcases h : atoiAll s.data.toList with v | _ | _
  · exact (Any.strconv_Atoi_ok Tryz.laysC172 s (by omega) v h w).mono fun e w' ⟨h1, h2⟩ => ⟨chg_bytes h2, .inl ⟨v, rfl, h1⟩⟩
  ·
    obtain ⟨tp, p, hv⟩ := hT.syn
    exact (Any.strconv_Atoi_syntax_var Tryz.laysC172 s (by omega) h tp p w hv).mono fun e w' ⟨N, h1, _, _, h2⟩ => ⟨Chg.of_below h2 _, .inr ⟨fun v => (by simp), _, _, N, h1⟩⟩
  ·
    obtain ⟨tp, p, hv⟩ := hT.rng
    exact (Any.strconv_Atoi_range_var Tryz.laysC172 s (by omega) h tp p w hv).mono fun e w' ⟨N, h1, _, _, h2⟩ => ⟨Chg.of_below h2 _, .inr ⟨fun v => (by simp), _, _, N, h1⟩⟩



def progEnd (d nm : List UInt8) : NumEnd Int → Int
  | .ok v => if 0 ≤ v ∧ v ≤ 1099511627776 ∧ segName d v.toNat = nm then v else -1
  | _ => -1
theorem progBase_eq {d nm a : List UInt8} (h : trimPrefix nm (d ++ [47]) = a) : progBase d nm = if hasSuffix a dotlog = true then progEnd d nm (atoiAll (trimSuffix a dotlog)) else -1 := by
  subst h
  unfold progBase
  simp only
  split
  · cases atoiAll (trimSuffix (trimPrefix nm (d ++ [47])) dotlog) <;> rfl
  · rfl
theorem trimSuffix_len (a p : List UInt8) : (trimSuffix a p).length ≤ a.length := by
  unfold trimSuffix
  split
  · rw [List.length_take]; omega
  · exact Nat.le_refl _
theorem trimPrefix_len (a p : List UInt8) : (trimPrefix a p).length ≤ a.length := by
  unfold trimPrefix
  split
  · rw [List.length_drop]; omega
  · exact Nat.le_refl _

set_option maxHeartbeats 2000000 in
theorem progBase_any {w : World} (hT : TabE w) (d nm : ByteArray) (hd : d.size ≤ 500) (hn : nm.size ≤ 900) :
    Calls Tryz.prog 52 #[.string d, .string nm] w fun e w' => e = .returned (.int .i64 (progBase d.data.toList nm.data.toList)) ∧ Chg Nil w w' := by
  have HC := Lib.hid (fun p => Any.strings_CutPrefix Tryz.lays103 nm p w)
  have HT := Lib.hid hT
  clear hT
  go_enter Tryz.func52, Tryz.ntmps52
  go_wp2_with (go_at_call 74; refine (HC.out _).mono ?_; rintro e w1 ⟨rfl, rfl⟩)
  obtain ⟨a, ha⟩ : ∃ a : List UInt8, trimPrefix nm.data.toList (d.data.toList ++ [47]) = a := ⟨_, rfl⟩
  have hal : a.length ≤ 900 := by
    have := list_size nm
    rw [← ha]; exact Nat.le_trans (trimPrefix_len _ _) (by omega)
  have hpb := progBase_eq ha
  rw [ha]
  clear ha
  have hx : (ByteArray.mk a.toArray).size = a.length := by rw [← list_size]
  refine (Any.strings_CutSuffix Tryz.lays104 ⟨a.toArray⟩ ⟨#[46, 108, 111, 103]⟩ w1 (by rw [hx]; omega)).mono ?_
  rintro e w2 ⟨rfl, rfl⟩
  have hx2 : (ByteArray.mk #[46, 108, 111, 103]).data.toList = dotlog := rfl
  have hx3 : (ByteArray.mk a.toArray).data.toList = a := rfl
  rw [hx2, hx3]
  obtain ⟨b, hb⟩ : ∃ b : List UInt8, trimSuffix a dotlog = b := ⟨_, rfl⟩
  have hbl : b.length ≤ 900 := by rw [← hb]; exact Nat.le_trans (trimSuffix_len _ _) hal
  obtain ⟨y, hy⟩ : ∃ y : Bool, hasSuffix a dotlog = y := ⟨_, rfl⟩
  rw [hb, hy]
  rw [hb, hy] at hpb
  clear hb hy hx hx2 hx3 hal
  have HPB := Lib.hid hpb
  clear hpb
  cases y with
  | false =>
    go_wp2_with fail
    go_ret
    exact ⟨by rw [HPB.out]; rfl, Chg.refl _ _⟩
  | true =>
    have hbs : (ByteArray.mk b.toArray).size = b.length := by rw [← list_size]
    have HA := Lib.hid (atoi_any HT.out ⟨b.toArray⟩ (by rw [hbs]; omega))
    clear hbs
    go_wp2_with (go_at_call 76; refine HA.out.mono ?_)
    rintro e w3 ⟨hc3, ⟨v, hv, rfl⟩ | ⟨hv, v, t, N, rfl⟩⟩
    · have hv : atoiAll b = .ok v := hv
      have hpb := HPB.out
      rw [hv, if_pos trivial] at hpb
      have HPB2 := Lib.hid hpb
      clear hpb HPB hv HA
      by_cases h0 : v < 0
      · go_wp2_with fail
        go_ret
        exact ⟨by rw [HPB2.out, progEnd, if_neg (by omega)]; rfl, hc3⟩
      · by_cases h1 : 1099511627776 < v
        · go_wp2_with fail
          go_ret
          exact ⟨by rw [HPB2.out, progEnd, if_neg (by omega)]; rfl, hc3⟩
        · obtain ⟨n, rfl⟩ : ∃ n : Nat, v = n := ⟨v.toNat, by omega⟩
          have HN := Lib.hid (name_any (HT.out.chg hc3).tabs d n (by omega) (by omega))
          obtain ⟨q, hq⟩ : ∃ q : ByteArray, (ByteArray.mk (segName d.data.toList n).toArray) = q := ⟨_, rfl⟩
          rw [hq] at HN
          have hqs : q = nm ↔ segName d.data.toList n = nm.data.toList := by
            rw [← hq]
            constructor
            · rintro rfl; rfl
            · intro h; exact ba_eq h
          have HP3 : Hid (progBase d.data.toList nm.data.toList = if q = nm then (n : Int) else -1) := by
            unfold Hid
            rw [HPB2.out, progEnd, Int.toNat_natCast]
            by_cases he : q = nm
            · rw [if_pos he, if_pos ⟨by omega, by omega, hqs.1 he⟩]
            · rw [if_neg he, if_neg (fun h => he (hqs.2 h.2.2))]
          clear hq hqs HPB2
          by_cases he : q = nm
          · have hne := bytes_eqT he
            have HE := Lib.hid he
            clear he
            go_wp2_with (go_at_call 29; refine HN.out.mono ?_; rintro e w4 ⟨rfl, hc4⟩)
            go_ret
            refine ⟨?_, hc3.trans hc4 (fun _ h => h.elim)⟩
            rw [HP3.out, if_pos HE.out]; rfl
          · have hne := bytes_eqF he
            have HE := Lib.hid he
            clear he
            go_wp2_with (go_at_call 29; refine HN.out.mono ?_; rintro e w4 ⟨rfl, hc4⟩)
            go_ret
            refine ⟨?_, hc3.trans hc4 (fun _ h => h.elim)⟩
            rw [HP3.out, if_neg HE.out]; rfl
    · have HV : Hid (progBase d.data.toList nm.data.toList = -1) := by
        unfold Hid
        rw [HPB.out, if_pos trivial]
        rcases h : atoiAll b with v | _ | _
        · exact absurd h (hv v)
        · rfl
        · rfl
      clear HPB hv HA
      go_wp2_with fail
      go_ret
      exact ⟨by rw [HV.out]; rfl, hc3⟩
end Go.Proofs.YtmaomebnigcgeaaGreatDoor

/-
  A batch of records lies in new blocks; the fact of segments. (Of the segments' seat.)
-/
set_option linter.unusedSimpArgs false
set_option linter.unusedVariables false
namespace Go.Proofs.YtmaomebnigcgeaaGreatDoor
open Go.RowKit Go.Maps

set_option maxRecDepth 100000 in
theorem batch_new (base : Int) (a : Option Addr) (rs : List Rec) (cap : Nat) (w : World) (hb : 0 ≤ base ∧ base ≤ 1099511627776) (hl : rs.length ≤ 100) (hc : RecsAt w a rs) :
    Calls Tryz.prog 28 #[.int .i64 base, .slice a rs.length cap] w fun e w' => Chg Nil w w' ∧ ∃ v, e = .returned (.agg #[.int .i64 base, .int .i64 (base + rs.length), v]) ∧ OwnR 55 w' v (numbered base rs) ∧ ∀ k, v.ownBlock = some k → w.heap.size ≤ k := by
  go_enter Tryz.func28, Tryz.ntmps28
  go_wp2
  have hx0 : Box ((w.alloc (.cells #[.int .i64 0, .int .i64 0, .slice none 0 0] 41)).alloc (.cells #[.int .i64 base, .int .i64 (base + rs.length), .slice none 0 0] 41)) (w.heap.size + 1) [.int .i64 base, .int .i64 (base + rs.length), .slice none 0 0] 41 := by
    have := Box.new (w.alloc (.cells #[.int .i64 0, .int .i64 0, .slice none 0 0] 41)) [.int .i64 base, .int .i64 (base + rs.length), .slice none 0 0] 41
    simpa using this
  have hz0 : Box ((w.alloc (.cells #[.int .i64 0, .int .i64 0, .slice none 0 0] 41)).alloc (.cells #[.int .i64 base, .int .i64 (base + rs.length), .slice none 0 0] 41)) w.heap.size [.int .i64 0, .int .i64 0, .slice none 0 0] 41 :=
    (Box.new w [.int .i64 0, .int .i64 0, .slice none 0 0] 41).chg ((Chg.refl Nil _).alloc _) (fun h => h)
  have hch0 : Chg Nil w ((w.alloc (.cells #[.int .i64 0, .int .i64 0, .slice none 0 0] 41)).alloc (.cells #[.int .i64 base, .int .i64 (base + rs.length), .slice none 0 0] 41)) := ((Chg.refl Nil _).alloc _).alloc _
  generalize (w.alloc (.cells #[.int .i64 0, .int .i64 0, .slice none 0 0] 41)).alloc (.cells #[.int .i64 base, .int .i64 (base + rs.length), .slice none 0 0] 41) = w1 at *
  go_loopw [6] (fun i wr => ∃ (k : Nat) (v : Value), k ≤ rs.length ∧ i = .int .i64 k ∧ Box wr (w.heap.size + 1) [.int .i64 base, .int .i64 (base + rs.length), v] 41 ∧ Box wr w.heap.size [.int .i64 0, .int .i64 0, .slice none 0 0] 41 ∧
    OwnR 55 wr v (numbered base (rs.take k)) ∧ (∀ b, v.ownBlock = some b → w.heap.size + 1 < b) ∧ Chg Nil w wr) (fun i _ => rs.length - (intOf i).toNat)
  case atStart => exact ⟨0, _, Nat.zero_le _, rfl, hx0, hz0, OwnR.nil _ _, by simp [Value.ownBlock], hch0⟩
  case round =>
    obtain ⟨k, v, hk, rfl, hx, hz, hown, hvb, hch⟩ := hrel
    clear hx0 hz0 hch0
    obtain ⟨vx, vn, vc, rfl⟩ := ownsRow_form hown
    by_cases hlt : k < rs.length
    · obtain ⟨b, off, rfl, hcell⟩ := RecsAt.chg hch hc (fun _ _ h => h) k hlt
      have g0 : wr.cell? ⟨b, off + k * 6, none⟩ = _ := hcell 0 _ rfl
      have g1 := hcell 1 _ rfl
      have g2 := hcell 2 _ rfl
      have g3 := hcell 3 _ rfl
      have g4 := hcell 4 _ rfl
      have g5 := hcell 5 _ rfl
      have hx2 := hx.cell (j := 2) rfl
      have hgx : w.heap.size + 1 < wr.heap.size := (Array.getElem?_eq_some_iff.1 hx).1
      have HS : Hid (numbered base (rs.take (k + 1)) = numbered base (rs.take k) ++ [{ rs[k] with off := base + k }]) := by
        unfold Hid
        rw [take_snoc rs k hlt, numbered_snoc, List.length_take, Nat.min_eq_left hk]
      clear hcell hc
      generalize rs[k] = r at *
      obtain ⟨ro, rt, rk, rkey, rg, rval⟩ := r
      simp only at g0 g1 g2 g3 g4 g5
      have hln : (numbered base (rs.take k)).length = k := by rw [numbered_length, List.length_take]; omega
      have HW := Lib.hid hln
      clear hln
      generalize numbered base (rs.take k) = L at *
      have h63 : L.length + 1 ≤ maxLen := by rw [HW.out]; unfold maxLen; omega
      have hby : (L.length + 1) * 64 ≤ 140737488355328 := by rw [HW.out]; omega
      have hb1 := Box.new (wr.alloc (.cells (Rec.cells ⟨base + k, rt, rk, rkey, rg, rval⟩).toArray 55)) (Rec.cells ⟨base + k, rt, rk, rkey, rg, rval⟩) 55
      have hsz1 : (wr.alloc (.cells (Rec.cells ⟨base + k, rt, rk, rkey, rg, rval⟩).toArray 55)).heap.size = wr.heap.size + 1 := by simp
      rw [hsz1] at hb1
      have HB1 := Lib.hid hb1
      have HH63 := Lib.hid h63
      have HBY := Lib.hid hby
      have HX := Lib.hid hx
      have HOW := Lib.hid hown
      clear hb1 hsz1 h63 hby hx hown
      go_wp2_with (at_builtin; go_must (refine wpList_append_grew rfl (.tmp 29) (.tmp 31) 39 39 rfl recsT _ Tryz.underlying39 (by intro _; simp) _ _ _ rfl ((HOW.out.alloc _).alloc _) _ 1 (Rec.cells ⟨base + k, rt, rk, rkey, rg, rval⟩) rfl (Source.box HB1.out rfl (Rec.cells_one _)) HH63.out HBY.out ?_); intro v2 w2 hown2 hg2 _; obtain ⟨x2, n2, c2, rfl⟩ := ownsRow_form hown2; have hxw : Box w2 (w.heap.size + 1) _ _ := (HX.out.chg (((Chg.refl Nil wr).alloc _).alloc _) (fun h => h)).chg hg2.chg (fun h => by have := hvb _ h; omega); have hx2' := hxw.cell (j := 2) rfl; have hxf := hxw.free 2; have HXW := Lib.hid hxw; clear hxw hx2)
      go_wp2
      go_roundw
      case rel =>
        have hsz2 := hg2.chg.size
        simp at hsz2
        have hchA : Chg Nil wr ((wr.alloc (.cells (Rec.cells ⟨base + k, rt, rk, rkey, rg, rval⟩).toArray 55)).alloc (.cells (Rec.cells ⟨base + k, rt, rk, rkey, rg, rval⟩).toArray 55)) := ((Chg.refl Nil _).alloc _).alloc _
        have hv2 : ∀ b, (Value.slice x2 n2 c2).ownBlock = some b → w.heap.size + 1 < b := by
          intro b hb
          rcases hg2.own b hb with h | h
          · exact hvb b h
          · simp at h; omega
        have hset : Chg (fun i => i = w.heap.size + 1) w2 (w2.setCell ⟨w.heap.size + 1, 2, none⟩ (.slice x2 n2 c2)) := (Chg.refl (fun i => i = w.heap.size + 1) _).setCell (.inl rfl) _
        have hup : Chg Nil w w2 := (hch.trans hchA (fun _ h => .inl h)).trans hg2.chg (fun i hi => .inr (by have := hvb i hi; omega))
        refine ⟨k + 1, .slice x2 n2 c2, by omega, by go_num, HXW.out.set 2 _, ?_, ?_, hv2, hup.trans hset (fun i hi => .inr (by omega))⟩
        · exact ((hz.chg hchA (fun h => h)).chg hg2.chg (fun h => by have := hvb _ h; omega)).chg hset (by omega)
        · have h := ownsRow_chg hown2 hset (fun b hb e => by have := hv2 b hb; omega)
          unfold OwnR
          rw [HS.out, List.length_append, List.flatMap_append]
          simpa using h
      case measure => simp [intOf]; omega
    · have hkl : k = rs.length := by omega
      have HT : Hid (numbered base (rs.take k) = numbered base rs) := by unfold Hid; rw [List.take_of_length_le (by omega)]
      rw [HT.out] at hown
      clear hkl
      have x0 := hx.cell (j := 0) rfl
      have x1 := hx.cell (j := 1) rfl
      have x2 := hx.cell (j := 2) rfl
      have z0 := hz.cell (j := 0) rfl
      have z1 := hz.cell (j := 1) rfl
      have z2 := hz.cell (j := 2) rfl
      have y0 := hz.free 0
      have y1 := hz.free 1
      have y2 := hz.free 2
      go_wp2
      refine bodyPost_ret (v := .agg #[.int .i64 base, .int .i64 (base + rs.length), .slice vx vn vc]) (by simp [results, Tryz.results28, go_sem, z0, z1, z2]) rfl ⟨?_, _, rfl, ?_⟩
      · exact ((hch.setCell (.inr (Nat.le_refl _)) _).setCell (.inr (Nat.le_refl _)) _).setCell (.inr (Nat.le_refl _)) _
      · exact ⟨ownsRow_chg hown ((((Chg.refl (fun i => i = w.heap.size) _).setCell (.inl rfl) _).setCell (.inl rfl) _).setCell (.inl rfl) _) (fun b hb e => by have := hvb b hb; omega), fun b hb => by have := hvb b hb; omega⟩

theorem recsAt_box {w : World} {g : Nat} {rs : List Rec} {t : TypeId} (h : Box w g (rs.flatMap Rec.cells) t) : RecsAt w (some ⟨g, 0, none⟩) rs := by
  intro i hi
  refine ⟨g, 0, rfl, fun j u hj => ?_⟩
  have := h.cell (j := i * 6 + j) (fm_get (f := Rec.cells) (n := 6) (fun _ => rfl) rs i hi j _ hj)
  rwa [show 0 + i * 6 + j = i * 6 + j by omega]
theorem numbered_ok2 {base : Int} {rs : List Rec} (h0 : 0 ≤ base) (h1 : base + rs.length ≤ 9223372036854775807) (h : ∀ r ∈ rs, r.Ok) : ∀ r ∈ numbered base rs, r.Ok := numbered_ok' h0 h1 h
def segRs : List Rec := [⟨0, 0, false, ⟨#[]⟩, false, ⟨#[97]⟩⟩, ⟨0, 0, false, ⟨#[]⟩, false, ⟨#[98]⟩⟩]
theorem seg_err : encErr 3 (3 + (segRs.length : Nat)) (numbered 3 segRs) = 0 := by decide +kernel
theorem seg_len : (encAll 3 (3 + (segRs.length : Nat)) (numbered 3 segRs)).length ≤ 100 := by decide +kernel
theorem segRs_ok : ∀ r ∈ numbered 3 segRs, Rec.Ok r := numbered_ok2 (by decide) (by decide) (fun r hr => by
  simp only [segRs, List.mem_cons, List.not_mem_nil, or_false] at hr
  rcases hr with rfl | rfl
  · exact ⟨by decide, by decide, Nat.zero_le _, show 1 ≤ maxLen by unfold maxLen; omega⟩
  · exact ⟨by decide, by decide, Nat.zero_le _, show 1 ≤ maxLen by unfold maxLen; omega⟩)

set_option maxHeartbeats 4000000 in
set_option maxRecDepth 100000 in
theorem segmented_any {w : World} (hE : TabE w) : Calls Tryz.prog 27 #[] w fun e w' => e = .returned (.bool true) ∧ Chg Nil w w' := by
  obtain ⟨fn, hfn⟩ : ∃ fn, segName [115] 3 = fn := ⟨_, rfl⟩
  have hk := (seg_ok 3 (by omega) 115 (by decide)).1
  rw [hfn] at hk
  have HK := Lib.hid hk
  have HFN := Lib.hid hfn
  have hfl : fn.length ≤ 900 := by have := dkName_len hk; omega
  have HFL := Lib.hid hfl
  have HNEW := Lib.hid (new_any 1000 (by omega) w)
  have HT := Lib.hid hE.tabs
  have HTE := Lib.hid hE
  have HTB := Lib.hid hE.tabs.lt
  clear hE hfn hk hfl
  go_enter Tryz.func27, Tryz.ntmps27
  go_wp2_with fail
  refine HNEW.out.mono ?_
  rintro e w1 ⟨p, mb, rfl, hp, hmb, hdm, hc1⟩
  have HDS := Lib.hid (DsS.start (by omega) hp hmb hdm hc1)
  have HC1 := Lib.hid hc1
  clear hp hmb hdm hc1
  have HMK := Lib.hid (smake_any HDS.out (HT.out.chg HC1.out) HTB.out ⟨#[115]⟩ (by decide) 3 (by omega))
  obtain ⟨d1, hd1, ho1⟩ := fresh_make (r := 1000) (nm := fn) HK.out
  have e1 : segName (ByteArray.mk #[115]).data.toList 3 = fn := HFN.out
  rw [e1, hd1] at HMK
  clear e1 hd1
  go_wp2_with fail
  refine HMK.out.mono ?_
  rintro e w2 ⟨hc2, S', hds2, hcase⟩
  rcases hcase with ⟨_, s, hs, rfl, hsg⟩ | ⟨hne, _⟩
  case inr => exact absurd rfl hne
  have HSG := Lib.hid hsg
  have HC2 : Hid (Chg Nil w w2) := HC1.out.trans hc2 (fun k hk => .inr hk.1)
  have HO1 := Lib.hid ho1
  clear hc2 hds2 hs hsg HMK HDS ho1 HNEW
  have HBX := Lib.hid (recsAt_box (rs := segRs) (Box.new w2 (segRs.flatMap Rec.cells) 55))
  have HAL := Lib.hid ((Chg.refl Nil w2).alloc (.cells (segRs.flatMap Rec.cells).toArray 55))
  go_wp2_with fail
  refine (batch_new 3 (some ⟨w2.heap.size, 0, none⟩) segRs 2 _ ⟨by omega, by omega⟩ (by decide) HBX.out).mono ?_
  rintro e w3 ⟨hc3, v, rfl, hown, hnew⟩
  obtain ⟨va, vcap, rfl, hrecs, hvle⟩ := hown.recs
  have HC3 : Hid (Chg Nil w2 w3) := HAL.out.trans hc3 (fun _ h => h.elim)
  have HAD : Hid (Calls Tryz.prog 12 #[.pointer (some ⟨s, 0, none⟩), .agg #[.int .i64 3, .int .i64 (3 + (segRs.length : Nat)), .slice va (numbered 3 segRs).length vcap]] w3 fun e w' => e = .returned .nilIface ∧ (∃ S' v' d' g', SgS (fun k => k < w.heap.size) w' p s S' v' d' g' ∧ One d' 1000 fn (batBs [⟨3, 3 + (segRs.length : Nat), numbered 3 segRs⟩])) ∧ Chg Nil w w') := by
    have hz2 := HAL.out.size
    have hsg := HSG.out.nil HC3.out
    have h1 := sadd_any hsg (by show fn.length ≤ 1000; have := HFL.out; omega) (by simp) (by simp) 3 (3 + (segRs.length : Nat)) va (numbered 3 segRs) vcap (by omega) (by decide) (by decide) segRs_ok hrecs (fun _ x hx hs => by
      subst hx
      have h2 := hnew x.block (by simp [Value.ownBlock])
      have h3 := (HSG.out.sl _ hs).2
      omega) (fun _ => Nat.le_trans seg_len (by decide))
    have hb : Bt.Ok ⟨3, 3 + (segRs.length : Nat), numbered 3 segRs⟩ := ⟨seg_err, segRs_ok⟩
    have h2 := addSg_ok (d := d1) (g := ⟨fn, ((3 : Nat) : Int), [], 0⟩) hb (Int.le_refl 3)
    obtain ⟨d', hd', ho'⟩ := (HO1.out.add (Bt.bytes ⟨3, 3 + (segRs.length : Nat), numbered 3 segRs⟩)).2 (by have := seg_len; show ¬ 1000 < 0 + (encAll 3 (3 + (segRs.length : Nat)) (numbered 3 segRs)).length; omega)
    rw [hd', if_pos rfl] at h2
    have h3 : addSg d1 ⟨fn, ((3 : Nat) : Int), [], 0⟩ 3 (3 + (segRs.length : Nat)) (numbered 3 segRs) = _ := h2
    rw [h3] at h1
    refine h1.mono ?_
    rintro e w' ⟨he, ⟨S', v', h4⟩, h5⟩
    refine ⟨he, ⟨S', v', _, _, h4, ?_⟩, (HC2.out.trans HC3.out (fun _ h => h.elim)).trans h5 (fun k hk => .inr (Nat.le_of_not_lt hk))⟩
    have e3 : batBs [⟨3, 3 + (segRs.length : Nat), numbered 3 segRs⟩] = [] ++ Bt.bytes ⟨3, 3 + (segRs.length : Nat), numbered 3 segRs⟩ := by rw [batBs_cons]; simp [batBs]
    rw [e3]
    exact ho'
  clear hown hrecs hvle hnew hc3
  go_wp2_with fail
  refine HAD.out.mono ?_
  rintro e w4 ⟨rfl, ⟨S4, v4, d4, g4, hsg4, ho4⟩, hc4⟩
  have HC4 := Lib.hid hc4
  have HOP : Hid (Calls Tryz.prog 8 #[.pointer (some ⟨p, 0, none⟩), .string ⟨#[115]⟩, .int .i64 3] w4 fun e w' => ∃ s' S' v' g', e = .returned (.tuple #[.pointer (some ⟨s', 0, none⟩), .int .i64 0, .nilIface]) ∧ SgS (fun k => k < w.heap.size) w' p s' S' v' d4 g' ∧ g'.base = 3 ∧ SgOf g' [⟨3, 3 + (segRs.length : Nat), numbered 3 segRs⟩] ∧ Chg Nil w w') := by
    obtain ⟨sf, hf⟩ := ho4.find
    have e1 : segName (ByteArray.mk #[115]).data.toList 3 = fn := HFN.out
    have h1 := sopen_any hsg4.ds (HT.out.chg hc4) ⟨#[115]⟩ (by decide) 3 (by omega) [⟨3, 3 + (segRs.length : Nat), numbered 3 segRs⟩] [] sf (by rw [e1, List.append_nil]; exact hf) (fun b hb => by rw [List.mem_singleton.1 hb]; exact ⟨seg_err, segRs_ok⟩) ⟨Int.le_refl 3, trivial⟩ (fun h => absurd rfl h)
    rw [e1] at h1
    have e2 : openR d4 fn [⟨3, 3 + (segRs.length : Nat), numbered 3 segRs⟩] [] = (0, d4) := if_pos rfl
    rw [e2] at h1
    refine h1.mono ?_
    rintro e w' ⟨hc, S', hds, h2⟩
    rcases h2 with ⟨_, s', v', g', _, he, hsg, hn, hb, hof⟩ | ⟨hne, _⟩
    · exact ⟨s', S', v', g', he, hsg, hb, hof, hc4.trans hc (fun k hk => .inr (Nat.le_of_not_lt fun hl => (hsg4.sl k hk).1 hl))⟩
    · exact absurd rfl hne
  clear hsg4 ho4 hc4
  go_wp2_with fail
  refine HOP.out.mono ?_
  rintro e w5 ⟨s', S5, v5, g5, rfl, hsg5, hb5, hof5, hc5⟩
  have HC5 := Lib.hid hc5
  have hpl : g5.pls.length = 1 := by rw [hof5.pls, plsOf_length]; rfl
  have HNX : Hid (Calls Tryz.prog 18 #[.pointer (some ⟨s', 0, none⟩)] w5 fun e w' => e = .returned (.int .i64 5) ∧ Chg Nil w5 w') := by
    have h1 := snext_any hsg5.m (by omega)
    have e5 : g5.next = 5 := by rw [hof5.next]; rfl
    rw [e5] at h1
    exact h1
  have HSG5 := Lib.hid hsg5
  have HPL := Lib.hid hpl
  clear hsg5 hb5 hof5 hc5 hpl
  go_wp2_with fail
  refine HNX.out.mono ?_
  rintro e w6 ⟨rfl, hc6⟩
  have HC6 := Lib.hid (HC5.out.trans hc6 (fun _ h => h.elim))
  have HBT : Hid (Calls Tryz.prog 20 #[.pointer (some ⟨s', 0, none⟩)] w6 fun e w' => e = .returned (.int .i64 1) ∧ Chg Nil w6 w') := by
    refine (sbatches_any (HSG5.out.nil hc6).m).mono ?_
    rintro e w' ⟨h1, h2⟩
    rw [h2, h1, HPL.out]
    exact ⟨rfl, Chg.refl _ _⟩
  clear hc6
  go_wp2_with fail
  refine HBT.out.mono ?_
  rintro e w7 ⟨rfl, hc7⟩
  have HC7 := Lib.hid (HC6.out.trans hc7 (fun _ h => h.elim))
  have HNM : Hid (Calls Tryz.prog 29 #[.string ⟨#[115]⟩, .int .i64 3] w7 fun e w' => e = .returned (.string ⟨fn.toArray⟩) ∧ Chg Nil w7 w') := by
    have h1 := name_any (HT.out.chg HC7.out) ⟨#[115]⟩ 3 (by decide) (by omega)
    have e1 : segName (ByteArray.mk #[115]).data.toList 3 = fn := HFN.out
    rw [e1] at h1
    exact h1
  clear hc7
  go_wp2_with fail
  refine HNM.out.mono ?_
  rintro e w8 ⟨rfl, hc8⟩
  have HC8 := Lib.hid (HC7.out.trans hc8 (fun _ h => h.elim))
  have HBS : Hid (Calls Tryz.prog 52 #[.string ⟨#[115]⟩, .string ⟨fn.toArray⟩] w8 fun e w' => e = .returned (.int .i64 3) ∧ Chg Nil w8 w') := by
    have h1 := progBase_any (HTE.out.chg HC8.out) ⟨#[115]⟩ ⟨fn.toArray⟩ (by decide) (by show fn.toArray.size ≤ 900; simp; exact HFL.out)
    have e1 : progBase (ByteArray.mk #[115]).data.toList (ByteArray.mk fn.toArray).data.toList = 3 := by
      show progBase [115] fn = 3
      rw [← HFN.out]
      exact prog_hit [115] (n := 3) (by omega)
    rw [e1] at h1
    exact h1
  clear hc8
  go_wp2_with fail
  refine HBS.out.mono ?_
  rintro e w9 ⟨rfl, hc9⟩
  have HC9 := Lib.hid (HC8.out.trans hc9 (fun _ h => h.elim))
  clear hc9
  go_wp2_with fail
  go_ret
  exact ⟨rfl, HC9.out⟩
end Go.Proofs.YtmaomebnigcgeaaGreatDoor
