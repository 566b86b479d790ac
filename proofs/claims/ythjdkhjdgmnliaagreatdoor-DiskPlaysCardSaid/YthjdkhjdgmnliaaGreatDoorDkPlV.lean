/-
  The walk of DiskPlays, at a room that may be, and at no more than 60. (Written by mkplays2.py; closed facts of the kernel apart: KRAUX.)
-/
import Derived.Test.YthjdkhjdgmnliaaGreatDoorDkPlD
import Derived.Deep.CutBlock
import Derived.Deep.DeepCutAuto
set_option linter.unusedSimpArgs false
set_option linter.unusedVariables false
namespace Go.Proofs.YthjdkhjdgmnliaaGreatDoor
open Go.RowKit Go.Maps Go.Sort Go.Shelf

/-- Between the two parts of an operation, and behind them. -/
def PlF (n0 p q : Nat) (Av S1 T : Nat → Prop) (d1 d : Dk) : List Value → World → Prop
  | [], w => BothS n0 w p q Av S1 T d1 d
  | _ :: _, w => ∃ T', BothS n0 w p q Av S1 T' d1 d1
theorem PlF.nil {n0 p q : Nat} {Av S1 T : Nat → Prop} {d1 d : Dk} {w w' : World} (hc : Chg Nil w w') : ∀ vs, PlF n0 p q Av S1 T d1 d vs w → PlF n0 p q Av S1 T d1 d vs w'
  | [], h => BothS.nil h hc
  | _ :: _, ⟨T', h⟩ => ⟨T', h.nil hc⟩
theorem BothS.start {w w1 w3 : World} {p mb q gw r : Nat} (hr : r ≤ 1048576) (hp : w.heap.size ≤ p) (hm : w.heap.size ≤ mb) (hd : Dm w1 p mb [] (fun _ => undef) (fun _ => ⟨[], 0⟩) r (-1)) (hc1 : Chg Nil w w1) (hc3 : Chg Nil w1 w3) (hq : w1.heap.size = q) (hgw : q < gw) (hg3 : gw < w3.heap.size)
    (hb : Box w3 q [.slice none 0 0, .int .i64 (r : Nat), .int .i64 (-1)] 33) :
    BothS w.heap.size w3 p q (fun k => k = gw) (fun k => w.heap.size ≤ k ∧ k < w1.heap.size) (fun k => k = q) (Dk.fresh r) (Dk.fresh r) := by
  have hz := hc1.size
  have hz3 := hc3.size
  have hA : DiskAt w1 p (fun k => w.heap.size ≤ k ∧ k < w1.heap.size) (Dk.fresh r) := by
    refine ⟨mb, [], _, _, hd, rfl, fun k hk => ⟨?_, hd.lt k hk⟩, ⟨by simp [Dk.fresh, Dk.names], by simp [Dk.fresh], by simp [Dk.fresh, Dk.used], hr, by simp [Dk.fresh], by simp [Dk.fresh], by simp [Dk.fresh, Dk.names]⟩⟩
    rcases hk with rfl | rfl | ⟨q, hq, _⟩
    · exact hp
    · exact hm
    · simp at hq
  refine ⟨by omega, hA.chg hc3 (fun _ _ h => h), ⟨.slice none 0 0, [], ⟨hb, OwnF.nil _, by simp⟩, rfl, ?_⟩, fun k hk e => ?_, fun k hk => ⟨hk.1, by omega, fun e => ?_⟩, fun k hk => ?_, fun k hk => ?_⟩
  · rintro k (hk | hk | ⟨r, hr, _⟩)
    · exact hk
    · simp [Value.ownBlock] at hk
    · simp at hr
  · have := hk.2; omega
  · have := hk.2; omega
  · exact ⟨by omega, by omega, fun e => by omega⟩
  · omega
theorem list_few {d : Dk} (h : d.Ok) (x : Nm) : (d.list x).length ≤ 1000000 := by
  unfold Dk.list sortN
  rw [List.length_mergeSort]
  refine Nat.le_trans (List.length_filter_le _ _) ?_
  have h2 : d.names.length = d.fs.length := by unfold Dk.names; rw [List.length_map]
  have := h.few
  omega
def Dk.failed (d : Dk) (n : Int) : Dk := { d with left := max n (-1) }
theorem fail_any2 {w : World} {p : Nat} {S : Nat → Prop} {d : Dk} (h : DiskAt w p S d) (n : Int) (hn : n ≤ 9223372036854775807) :
    Calls Tryz.prog 13 #[.pointer (some ⟨p, 0, none⟩), .int .i64 n] w fun e w' => e = .returned (.tuple #[]) ∧ DiskAt w' p S (d.failed n) ∧ Chg S w w' := fail_any h n hn
theorem fail_ref {n0 : Nat} {w : World} {p q : Nat} {Av S T : Nat → Prop} {d : Dk} {n : Int} (h : BothS n0 w p q Av S T (d.failed n) d) :
    (∃ v, w.cell? ⟨q, 2, none⟩ = some v) ∧ w.frozen? ⟨q, 2, none⟩ = false ∧ BothS n0 (w.setCell ⟨q, 2, none⟩ (.int .i64 (max n (-1)))) p q Av S T (d.failed n) (d.failed n) ∧ Chg (Rg n0 Av) w (w.setCell ⟨q, 2, none⟩ (.int .i64 (max n (-1)))) := by
  obtain ⟨v, rs, hm, hfs, hT⟩ := h.b
  obtain ⟨h1, h2⟩ := hm.lefts (max n (-1))
  have h3 : Chg T w (w.setCell ⟨q, 2, none⟩ (.int .i64 (max n (-1)))) := h2.weak (fun k hk => .inl (hT k (.inl hk)))
  have hb : RefAt (w.setCell ⟨q, 2, none⟩ (.int .i64 (max n (-1)))) q (Gr T w (w.setCell ⟨q, 2, none⟩ (.int .i64 (max n (-1))))) { d with left := max n (-1) } := ⟨v, rs, h1, hfs, fun k hk => .inl (hT k hk)⟩
  have h4 := h.op2 hb h3
  refine ⟨⟨_, hm.c.cell (j := 2) rfl⟩, hm.c.free 2, ⟨h4.lo, h4.a, h4.b.weak ?_, h.ap, h4.s, fun k hk => h4.t k (.inl hk), h4.av⟩, h.rg2 h3⟩
  rintro k (hk | ⟨h5, h6⟩)
  · exact hk
  · rw [World.size_setCell] at h6; omega

set_option maxHeartbeats 0 in
set_option maxRecDepth 100000 in
theorem diskPlays_in (r : Nat) (hr : r ≤ 1048576) (xa : Option Addr) (xs : List Dc) (xc : Nat) (w : World) (hxl : xs.length ≤ 60) (hok : ∀ x ∈ xs, x.Ok w) (hxa : DcsAt w xa xs) (hgh : Handle w) :
    Calls Tryz.prog 3 #[.int .i64 (r : Nat), .slice xa xs.length xc] w fun e w' => e = .returned (.bool true) ∧ Chg Nil w w' := by
  have h0 : ¬ (r : Int) < 0 := by omega
  have h1 : ¬ (1048576 : Int) < (r : Int) := by omega
  have h60 : ¬ (60 : Int) < (xs.length : Int) := by omega
  have HXA := Lib.hid hxa
  have HOK := Lib.hid hok
  have HGH := Lib.hid hgh
  have HNEW := Lib.hid (new_any r hr w)
  have HRR := Lib.hid hr
  clear hxa hok hgh hr
  go_enter Tryz.func3, Tryz.ntmps3
  go_wp2_with (go_at_call 4; refine HNEW.out.mono ?_)
  rintro e w1 ⟨p, mb, rfl, hp, hmb, hdm, hc1⟩
  have HP := Lib.hid hp
  have HMB := Lib.hid hmb
  have HDM := Lib.hid hdm
  have HC1 := Lib.hid hc1
  clear hp hmb hdm hc1 HNEW
  have hb1 := Box.new w1 [.slice none 0 0, .int .i64 (r : Nat), .int .i64 (-1)] 33
  have ha1 := (Chg.refl Nil w1).alloc (.cells #[.slice none 0 0, .int .i64 (r : Nat), .int .i64 (-1)] 33)
  go_upto_region 7 with fail
  have hb1 : Box (w1.alloc (.cells #[.slice none 0 0, .int .i64 (r : Nat), .int .i64 (-1)] 33)) w1.heap.size [.slice none 0 0, .int .i64 (r : Nat), .int .i64 (-1)] 33 := hb1
  have hs2 : (w1.alloc (.cells #[.slice none 0 0, .int .i64 (r : Nat), .int .i64 (-1)] 33)).heap.size = w1.heap.size + 1 := by rw [World.size_alloc]
  generalize w1.alloc (.cells #[.slice none 0 0, .int .i64 (r : Nat), .int .i64 (-1)] 33) = w2 at *
  obtain ⟨q, hq⟩ : ∃ q, w1.heap.size = q := ⟨_, rfl⟩
  rw [hq] at hb1 hs2
  rw [hq]
  have HQ := Lib.hid hq
  have HS2 := Lib.hid hs2
  clear hq hs2
  have hb2 := Box.new w2 dwords 9
  have ha2 := (Chg.refl Nil w2).alloc (.cells dwords.toArray 9)
  go_upto_region 8 with fail
  have hb2 : Box (w2.alloc (.cells #[.string ⟨#[109, 97, 107, 101]⟩, .string ⟨#[97, 100, 100]⟩, .string ⟨#[99, 117, 116]⟩, .string ⟨#[115, 121, 110, 99]⟩, .string ⟨#[114, 101, 110, 97, 109, 101]⟩, .string ⟨#[114, 101, 109, 111, 118, 101]⟩] 9)) w2.heap.size dwords 9 := hb2
  have ha2 : Chg Nil w2 (w2.alloc (.cells #[.string ⟨#[109, 97, 107, 101]⟩, .string ⟨#[97, 100, 100]⟩, .string ⟨#[99, 117, 116]⟩, .string ⟨#[115, 121, 110, 99]⟩, .string ⟨#[114, 101, 110, 97, 109, 101]⟩, .string ⟨#[114, 101, 109, 111, 118, 101]⟩] 9)) := ha2
  have hs3 : (w2.alloc (.cells #[.string ⟨#[109, 97, 107, 101]⟩, .string ⟨#[97, 100, 100]⟩, .string ⟨#[99, 117, 116]⟩, .string ⟨#[115, 121, 110, 99]⟩, .string ⟨#[114, 101, 110, 97, 109, 101]⟩, .string ⟨#[114, 101, 109, 111, 118, 101]⟩] 9)).heap.size = w2.heap.size + 1 := by rw [World.size_alloc]
  generalize w2.alloc (.cells #[.string ⟨#[109, 97, 107, 101]⟩, .string ⟨#[97, 100, 100]⟩, .string ⟨#[99, 117, 116]⟩, .string ⟨#[115, 121, 110, 99]⟩, .string ⟨#[114, 101, 110, 97, 109, 101]⟩, .string ⟨#[114, 101, 109, 111, 118, 101]⟩] 9) = w3 at *
  obtain ⟨gw, hgw⟩ : ∃ gw, w2.heap.size = gw := ⟨_, rfl⟩
  rw [hgw] at hb2 hs3
  rw [hgw]
  have HB := Lib.hid (BothS.start (gw := gw) HRR.out HP.out HMB.out HDM.out HC1.out (ha1.trans ha2 (fun _ h => h.elim)) HQ.out (by have := HS2.out; omega) (by omega) (hb1.chg ha2 (fun h => h)))
  have HWD := Lib.hid hb2
  have HC3 := Lib.hid ((HC1.out.trans ha1 (fun _ h => h.elim)).trans ha2 (fun _ h => h.elim))
  obtain ⟨n0, hn0⟩ : ∃ n0, w.heap.size = n0 := ⟨_, rfl⟩
  rw [hn0] at HB
  have HN0 := Lib.hid hn0
  clear hb1 hb2 ha1 ha2 hgw hs3 hn0 HS2 HQ HP HMB HDM HC1 h0 h1 h60
  try clear hb1
  try clear hb2
  try clear ha2
  try clear ha1
  go_wp2_with fail
  go_loopw [9] (fun ii wr => ∃ (wq : World) (i : Nat) (S T : Nat → Prop) (d : Dk), wq = wr ∧ i ≤ xs.length ∧ ii = .int .i64 i ∧ BothS n0 wr p q (fun k => k = gw) S T d d ∧ Box wr gw dwords 9 ∧ Chg Nil w wr) (fun ii _ => xs.length - (RowKit.intOf ii).toNat)
  case atStart => exact ⟨_, 0, _, _, _, rfl, by omega, rfl, HB.out, HWD.out, HC3.out⟩
  case round =>
    obtain ⟨wr, i, S, T, d, rfl, hi, rfl, hb, hwd, hc⟩ := hrel
    have HB := Lib.hid hb
    have HWD := Lib.hid hwd
    have HC := Lib.hid hc
    clear hb hwd hc HC3
    by_cases hil : i < xs.length
    ·
      have hii : (i : Int) < (xs.length : Int) := by omega
      obtain ⟨b, off, rfl, hcell⟩ := HXA.out i hil
      have HXO := Lib.hid (HOK.out _ (List.getElem_mem hil))
      obtain ⟨x, hx⟩ : ∃ x, x = xs[i] := ⟨_, rfl⟩
      rw [← hx] at hcell HXO
      clear hx
      obtain ⟨xw, xn, xt, xba, xb, xbc, xk, xm⟩ := x
      have y0 := HC.out.cell (hcell 0 _ rfl) (fun h => h)
      have y1 := HC.out.cell (hcell 1 _ rfl) (fun h => h)
      have y2 := HC.out.cell (hcell 2 _ rfl) (fun h => h)
      have y3 := HC.out.cell (hcell 3 _ rfl) (fun h => h)
      have y4 := HC.out.cell (hcell 4 _ rfl) (fun h => h)
      have y5 := HC.out.cell (hcell 5 _ rfl) (fun h => h)
      rw [Nat.add_zero] at y0
      clear hcell
      have hal := (Chg.refl Nil wr).alloc (.cells #[.int .i64 xw, .string ⟨xn.toArray⟩, .string ⟨xt.toArray⟩, .slice xba xb.length xbc, .int .i64 xk, .int .i64 xm] 37)
      have hbx := Box.new wr [.int .i64 xw, .string ⟨xn.toArray⟩, .string ⟨xt.toArray⟩, .slice xba xb.length xbc, .int .i64 xk, .int .i64 xm] 37
      go_upto_region 12 with fail
      clear y0 y1 y2 y3 y4 y5
      have hbx : Box (wr.alloc (.cells #[.int .i64 xw, .string ⟨xn.toArray⟩, .string ⟨xt.toArray⟩, .slice xba xb.length xbc, .int .i64 xk, .int .i64 xm] 37)) wr.heap.size [.int .i64 xw, .string ⟨xn.toArray⟩, .string ⟨xt.toArray⟩, .slice xba xb.length xbc, .int .i64 xk, .int .i64 xm] 37 := hbx
      have hsz : (wr.alloc (.cells #[.int .i64 xw, .string ⟨xn.toArray⟩, .string ⟨xt.toArray⟩, .slice xba xb.length xbc, .int .i64 xk, .int .i64 xm] 37)).heap.size = wr.heap.size + 1 := by rw [World.size_alloc]
      have HB1 := Lib.hid (HB.out.more hal (Nat.le_refl _) (by rw [hsz]; omega))
      have HWD1 := Lib.hid (HWD.out.chg hal (fun h => h))
      have HC1 := Lib.hid (HC.out.trans hal (fun _ h => h.elim))
      clear HB HWD hal hsz HC
      generalize wr.alloc (.cells #[.int .i64 xw, .string ⟨xn.toArray⟩, .string ⟨xt.toArray⟩, .slice xba xb.length xbc, .int .i64 xk, .int .i64 xm] 37) = w1 at *
      generalize wr.heap.size = gx at *
      have x0 := hbx.cell (j := 0) rfl
      have x1 := hbx.cell (j := 1) rfl
      have x2 := hbx.cell (j := 2) rfl
      have x3 := hbx.cell (j := 3) rfl
      have x4 := hbx.cell (j := 4) rfl
      have x5 := hbx.cell (j := 5) rfl
      have HBX := Lib.hid hbx
      clear hbx
      have hsn : (ByteArray.mk xn.toArray).size = xn.length := by show xn.toArray.size = _; simp
      have hst : (ByteArray.mk xt.toArray).size = xt.length := by show xt.toArray.size = _; simp
      by_cases hl1 : (60 : Int) < (xn.length : Int)
      · go_wp2_with fail
        go_ret
        exact ⟨rfl, HC1.out⟩
      · by_cases hl2 : (60 : Int) < (xt.length : Int)
        · go_wp2_with fail
          go_ret
          exact ⟨rfl, HC1.out⟩
        · by_cases hl3 : (3000 : Int) < (xb.length : Int)
          · go_wp2_with fail
            go_ret
            exact ⟨rfl, HC1.out⟩
          ·
            have HL1 : Hid (xn.length ≤ 60) := by unfold Hid; omega
            have HL2 : Hid (xt.length ≤ 60) := by unfold Hid; omega
            have HL3 : Hid (xb.length ≤ 3000) := by unfold Hid; omega
            have HBY := Lib.hid HXO.out.bytes
            have HXK : Hid (xk ≤ 9223372036854775807) := HXO.out.n
            have HG1 := Lib.hid (HGH.out.chg HC1.out (fun h => h))
            have HBN : Hid (∀ S : Nat → Prop, (∀ k, S k → n0 ≤ k) → xb ≠ [] → ∀ y, xba = some y → ¬ S y.block) := fun S hS => bytes_off HBY.out HN0.out hS
            have HBY1 := Lib.hid (HC1.out.bytesAt HBY.out (fun _ _ h => h))
            clear HXO HBY
            obtain ⟨Av, hAv⟩ : ∃ Av : Nat → Prop, Av = fun k => k = gw ∨ k = gx := ⟨_, rfl⟩
            have HB2 : Hid (BothS n0 w1 p q Av S T d d) := by rw [hAv]; exact HB1.out
            have HAW : Hid (¬ Rg n0 Av gw) := by rw [hAv]; exact fun h => h.2 (.inl rfl)
            have HAX : Hid (¬ Rg n0 Av gx) := by rw [hAv]; exact fun h => h.2 (.inr rfl)
            have HAG : Hid (∀ k, k = gw → Av k) := by rw [hAv]; exact fun k h => .inl h
            clear HB1 hAv
            have HLT : Hid (Chg (Rg n0 Av) w1 w1) := Chg.refl _ _
            have HLO : Hid (∀ (w' : World), Chg (Rg n0 Av) w1 w' → Chg Nil w w') := fun w' hw => HC1.out.trans hw (fun k hk => .inr (by rw [HN0.out]; exact hk.1))
            go_upto_block 2 with fail
            clear hl1 hl2 hl3
            go_cut [11] (fun ev wy => ∃ (S T : Nat → Prop) (d : Dk), BothS n0 wy p q Av S T d d ∧ Chg (Rg n0 Av) w1 wy)
            case first =>
              clear hsn hst
              have HIN : Hid (¬ (0 ≤ xw ∧ xw ≤ 5) → xw ≠ 0 ∧ xw ≠ 1 ∧ xw ≠ 2 ∧ xw ≠ 3 ∧ xw ≠ 4 ∧ xw ≠ 5) := fun h => by omega
              go_upto_if 78 with fail
              go_cut [78] (fun bv wy => bv = .bool (decide (0 ≤ xw ∧ xw ≤ 5)) ∧ wy = w1)
              case first =>
                by_cases hw0 : xw = 0
                · as_aux_lemma =>
                  have hw0t : (xw == 0) = true := beq_iff_eq.2 hw0
                  have hd : decide (0 ≤ xw ∧ xw ≤ 5) = true := decide_eq_true (by omega)
                  have HD := Lib.hid hd
                  clear hw0 hd
                  go_wp2_with fail
                  go_simp
                  go_meet
                  case rel => exact ⟨by rw [HD.out], rfl⟩
                have hw0b : (xw == 0) = false := beq_eq_false_iff_ne.2 hw0
                by_cases hw1 : xw = 1
                · as_aux_lemma =>
                  have hw1t : (xw == 1) = true := beq_iff_eq.2 hw1
                  have hd : decide (0 ≤ xw ∧ xw ≤ 5) = true := decide_eq_true (by omega)
                  have HD := Lib.hid hd
                  clear hw1 hd
                  go_wp2_with fail
                  go_simp
                  go_meet
                  case rel => exact ⟨by rw [HD.out], rfl⟩
                have hw1b : (xw == 1) = false := beq_eq_false_iff_ne.2 hw1
                by_cases hw2 : xw = 2
                · as_aux_lemma =>
                  have hw2t : (xw == 2) = true := beq_iff_eq.2 hw2
                  have hd : decide (0 ≤ xw ∧ xw ≤ 5) = true := decide_eq_true (by omega)
                  have HD := Lib.hid hd
                  clear hw2 hd
                  go_wp2_with fail
                  go_simp
                  go_meet
                  case rel => exact ⟨by rw [HD.out], rfl⟩
                have hw2b : (xw == 2) = false := beq_eq_false_iff_ne.2 hw2
                by_cases hw3 : xw = 3
                · as_aux_lemma =>
                  have hw3t : (xw == 3) = true := beq_iff_eq.2 hw3
                  have hd : decide (0 ≤ xw ∧ xw ≤ 5) = true := decide_eq_true (by omega)
                  have HD := Lib.hid hd
                  clear hw3 hd
                  go_wp2_with fail
                  go_simp
                  go_meet
                  case rel => exact ⟨by rw [HD.out], rfl⟩
                have hw3b : (xw == 3) = false := beq_eq_false_iff_ne.2 hw3
                by_cases hw4 : xw = 4
                · as_aux_lemma =>
                  have hw4t : (xw == 4) = true := beq_iff_eq.2 hw4
                  have hd : decide (0 ≤ xw ∧ xw ≤ 5) = true := decide_eq_true (by omega)
                  have HD := Lib.hid hd
                  clear hw4 hd
                  go_wp2_with fail
                  go_simp
                  go_meet
                  case rel => exact ⟨by rw [HD.out], rfl⟩
                have hw4b : (xw == 4) = false := beq_eq_false_iff_ne.2 hw4
                by_cases hw5 : xw = 5
                · as_aux_lemma =>
                  have hw5t : (xw == 5) = true := beq_iff_eq.2 hw5
                  have hd : decide (0 ≤ xw ∧ xw ≤ 5) = true := decide_eq_true (by omega)
                  have HD := Lib.hid hd
                  clear hw5 hd
                  go_wp2_with fail
                  go_simp
                  go_meet
                  case rel => exact ⟨by rw [HD.out], rfl⟩
                have hw5b : (xw == 5) = false := beq_eq_false_iff_ne.2 hw5
                as_aux_lemma =>
                  have hd : decide (0 ≤ xw ∧ xw ≤ 5) = false := decide_eq_false (by omega)
                  have HD := Lib.hid hd
                  clear hw0 hw1 hw2 hw3 hw4 hw5 hd
                  go_wp2_with fail
                  go_simp
                  go_meet
                  case rel => exact ⟨by rw [HD.out], rfl⟩
              obtain ⟨rfl, hwc⟩ := hcut
              obtain rfl := hwc.symm
              by_cases hdo : 0 ≤ xw ∧ xw ≤ 5
              ·
                have hd : decide (0 ≤ xw ∧ xw ≤ 5) = true := decide_eq_true hdo
                rw [hd]
                obtain ⟨k, rfl⟩ : ∃ k : Nat, xw = (k : Int) := ⟨xw.toNat, by omega⟩
                have HK : Hid (k < 6) := by unfold Hid; omega
                clear hd hdo
                go_upto_block 3 with fail
                go_cut [11] (fun ev wy => ∃ (S1 : Nat → Prop) (R : Nat × Dk), d.act k xn xt xb xk = R ∧ ev = errV R.1 ∧ BothS n0 wy p q Av S1 T R.2 d ∧ Chg (Rg n0 Av) w1 wy)
                case first =>
                  by_cases hw0 : k = 0
                  · as_aux_lemma =>
                    subst hw0
                    have HOP := Lib.hid (make_any HB2.out.a ⟨xn.toArray⟩ (by show xn.toArray.size ≤ 4611686018427387904; simp; have := HL1.out; omega))
                    go_wp2_with fail
                    refine HOP.out.mono ?_
                    rintro e wy ⟨rfl, h2, h3⟩
                    have HB3 := Lib.hid (HB2.out.op1 h2 h3)
                    have HR3 := Lib.hid (HB2.out.rg1 h3)
                    clear h2 h3 HOP
                    go_wp2_with fail
                    go_simp
                    go_meet
                    case rel => exact ⟨_, _, rfl, rfl, HB3.out, HR3.out⟩
                  have hw0b : ((k : Int) == 0) = false := beq_eq_false_iff_ne.2 (by omega)
                  by_cases hw1 : k = 1
                  · as_aux_lemma =>
                    subst hw1
                    have HOP := Lib.hid (add_any HB2.out.a ⟨xn.toArray⟩ (by show xn.toArray.size ≤ 4611686018427387904; simp; have := HL1.out; omega) xba xb xbc (by have := HL3.out; omega) HBY1.out (HBN.out S (fun k hk => (HB2.out.s k hk).1)))
                    go_wp2_with fail
                    refine HOP.out.mono ?_
                    rintro e wy ⟨rfl, h2, h3⟩
                    have HB3 := Lib.hid (HB2.out.op1 h2 h3)
                    have HR3 := Lib.hid (HB2.out.rg1 h3)
                    clear h2 h3 HOP
                    go_wp2_with fail
                    go_simp
                    go_meet
                    case rel => exact ⟨_, _, rfl, rfl, HB3.out, HR3.out⟩
                  have hw1b : ((k : Int) == 1) = false := beq_eq_false_iff_ne.2 (by omega)
                  by_cases hw2 : k = 2
                  · as_aux_lemma =>
                    subst hw2
                    have HOP := Lib.hid (cut_any HB2.out.a ⟨xn.toArray⟩ (by show xn.toArray.size ≤ 4611686018427387904; simp; have := HL1.out; omega) xk)
                    go_wp2_with fail
                    refine HOP.out.mono ?_
                    rintro e wy ⟨rfl, h2, h3⟩
                    have HB3 := Lib.hid (HB2.out.op1 h2 h3)
                    have HR3 := Lib.hid (HB2.out.rg1 h3)
                    clear h2 h3 HOP
                    go_wp2_with fail
                    go_simp
                    go_meet
                    case rel => exact ⟨_, _, rfl, rfl, HB3.out, HR3.out⟩
                  have hw2b : ((k : Int) == 2) = false := beq_eq_false_iff_ne.2 (by omega)
                  by_cases hw3 : k = 3
                  · as_aux_lemma =>
                    subst hw3
                    have HOP := Lib.hid (sync_any HB2.out.a ⟨xn.toArray⟩ (by show xn.toArray.size ≤ 4611686018427387904; simp; have := HL1.out; omega))
                    go_wp2_with fail
                    refine HOP.out.mono ?_
                    rintro e wy ⟨rfl, h2, h3⟩
                    have HB3 := Lib.hid (HB2.out.op1 h2 h3)
                    have HR3 := Lib.hid (HB2.out.rg1 h3)
                    clear h2 h3 HOP
                    go_wp2_with fail
                    go_simp
                    go_meet
                    case rel => exact ⟨_, _, rfl, rfl, HB3.out, HR3.out⟩
                  have hw3b : ((k : Int) == 3) = false := beq_eq_false_iff_ne.2 (by omega)
                  by_cases hw4 : k = 4
                  · as_aux_lemma =>
                    subst hw4
                    have HOP := Lib.hid (rename_any HB2.out.a ⟨xn.toArray⟩ ⟨xt.toArray⟩ (by show xn.toArray.size ≤ 4611686018427387904; simp; have := HL1.out; omega) (by show xt.toArray.size ≤ 4611686018427387904; simp; have := HL2.out; omega))
                    go_wp2_with fail
                    refine HOP.out.mono ?_
                    rintro e wy ⟨rfl, h2, h3⟩
                    have HB3 := Lib.hid (HB2.out.op1 h2 h3)
                    have HR3 := Lib.hid (HB2.out.rg1 h3)
                    clear h2 h3 HOP
                    go_wp2_with fail
                    go_simp
                    go_meet
                    case rel => exact ⟨_, _, rfl, rfl, HB3.out, HR3.out⟩
                  have hw4b : ((k : Int) == 4) = false := beq_eq_false_iff_ne.2 (by omega)
                  obtain rfl : k = 5 := by have := HK.out; omega
                  clear hw0 hw1 hw2 hw3 hw4
                  have HOP := Lib.hid (remove_any HB2.out.a ⟨xn.toArray⟩ (by show xn.toArray.size ≤ 4611686018427387904; simp; have := HL1.out; omega))
                  go_wp2_with fail
                  refine HOP.out.mono ?_
                  rintro e wy ⟨rfl, h2, h3⟩
                  have HB3 := Lib.hid (HB2.out.op1 h2 h3)
                  have HR3 := Lib.hid (HB2.out.rg1 h3)
                  clear h2 h3 HOP
                  go_wp2_with fail
                  go_simp
                  go_meet
                  case rel => exact ⟨_, _, rfl, rfl, HB3.out, HR3.out⟩
                obtain ⟨S3, R, hR, rfl, hb3, hr3⟩ := hcut
                have HR := Lib.hid hR
                have HB3 := Lib.hid hb3
                have HR3 := Lib.hid hr3
                have HOK2 := Lib.hid HB2.out.a.ok
                have HG3 := Lib.hid (HGH.out.chg (HLO.out _ HR3.out) (fun h => h))
                have HBY3 := Lib.hid (bytes_keep HR3.out HBY1.out (fun hne y hy => HBN.out (Rg n0 Av) (fun k hk => hk.1) hne y hy))
                have HWD3 := Lib.hid (HWD1.out.chg HR3.out HAW.out)
                have HX3 := Lib.hid (HBX.out.chg HR3.out HAX.out)
                have x0 := HX3.out.cell (j := 0) rfl
                have x1 := HX3.out.cell (j := 1) rfl
                have x2 := HX3.out.cell (j := 2) rfl
                have x3 := HX3.out.cell (j := 3) rfl
                have x4 := HX3.out.cell (j := 4) rfl
                have wk := HWD3.out.cell (word_get HK.out)
                have hk0 : (0 : Int) ≤ (k : Int) := by omega
                have hk6 : (k : Int) < 6 := by have := HK.out; omega
                obtain ⟨W, hW⟩ : ∃ W, wordOf k = W := ⟨_, rfl⟩
                rw [hW] at wk
                have HW := Lib.hid hW
                obtain ⟨ev, hev⟩ : ∃ ev, errV R.1 = ev := ⟨_, rfl⟩
                rw [hev]
                have HV := Lib.hid hev
                clear hR hb3 hr3 hW hev
                as_aux_lemma =>
                  go_upto_region 34 with fail
                  refine Ch.wp_region_chain _ (Chg (Rg n0 Av)) [15] (PlF n0 p q Av S3 T R.2 d) (by as_aux_lemma => kernel_rfl) (fun _ => Chg.refl _ _) (fun _ _ _ h k => h.trans k (fun _ h => .inl h)) [[], [], [], [], [3], [2, 4], [5], [], [7], [], [9], [], [11], [], [13], [1, 6, 8, 10, 12, 14], [0, 15], [16]] rfl (by as_aux_lemma => kernel_rfl) (by as_aux_lemma => kernel_rfl) (Chg.refl _ _).drew ?_ ?_
                  · exact HB3.out.nil (Chg.refl Nil _).drew
                  iterate 4 ((with_reducible apply Ch.Walk.eq); (case hd => rfl); (case hi => rfl); case h => (intro w2 hw2 N hN; simp only [Ch.depsOf, List.filterMap_nil, List.filterMap_cons, List.getElem?_toArray, List.getElem?_cons_zero, List.getElem?_cons_succ, Option.bind_some, List.nil_append, List.cons_append, Ch.Ob]; go_simp; (try go_bits); with_reducible exact hN _ (Chg.refl _ _) (fun _ h => h)))
                  ((with_reducible apply Ch.Walk.eq); (case hd => rfl); (case hi => rfl); case h => (intro w2 hw2 N hN; (have hq := hw2.cell x0 HAX.out); simp only [Ch.depsOf, List.filterMap_nil, List.filterMap_cons, List.getElem?_toArray, List.getElem?_cons_zero, List.getElem?_cons_succ, Option.bind_some, List.nil_append, List.cons_append, Ch.Ob]; go_simp; (try go_bits); with_reducible exact hN _ (Chg.refl _ _) (fun _ h => h)))
                  ((with_reducible apply Ch.Walk.eq); (case hd => rfl); (case hi => rfl); case h => (intro w2 hw2 N hN; simp only [Ch.depsOf, List.filterMap_nil, List.filterMap_cons, List.getElem?_toArray, List.getElem?_cons_zero, List.getElem?_cons_succ, Option.bind_some, List.nil_append, List.cons_append, Ch.Ob]; go_simp; (try go_bits); with_reducible exact hN _ (Chg.refl _ _) (fun _ h => h)))
                  ((with_reducible apply Ch.Walk.eq); (case hd => rfl); (case hi => rfl); case h => (intro w2 hw2 N hN; (have hq := hw2.cell wk HAW.out); simp only [Ch.depsOf, List.filterMap_nil, List.filterMap_cons, List.getElem?_toArray, List.getElem?_cons_zero, List.getElem?_cons_succ, Option.bind_some, List.nil_append, List.cons_append, Ch.Ob]; go_simp; (try go_bits); with_reducible exact hN _ (Chg.refl _ _) (fun _ h => h)))
                  ((with_reducible apply Ch.Walk.eq); (case hd => rfl); (case hi => rfl); case h => (intro w2 hw2 N hN; simp only [Ch.depsOf, List.filterMap_nil, List.filterMap_cons, List.getElem?_toArray, List.getElem?_cons_zero, List.getElem?_cons_succ, Option.bind_some, List.nil_append, List.cons_append, Ch.Ob]; go_simp; (try go_bits); with_reducible exact hN _ (Chg.refl _ _) (fun _ h => h)))
                  ((with_reducible apply Ch.Walk.eq); (case hd => rfl); (case hi => rfl); case h => (intro w2 hw2 N hN; (have hq := hw2.cell x1 HAX.out); simp only [Ch.depsOf, List.filterMap_nil, List.filterMap_cons, List.getElem?_toArray, List.getElem?_cons_zero, List.getElem?_cons_succ, Option.bind_some, List.nil_append, List.cons_append, Ch.Ob]; go_simp; (try go_bits); with_reducible exact hN _ (Chg.refl _ _) (fun _ h => h)))
                  ((with_reducible apply Ch.Walk.eq); (case hd => rfl); (case hi => rfl); case h => (intro w2 hw2 N hN; simp only [Ch.depsOf, List.filterMap_nil, List.filterMap_cons, List.getElem?_toArray, List.getElem?_cons_zero, List.getElem?_cons_succ, Option.bind_some, List.nil_append, List.cons_append, Ch.Ob]; go_simp; (try go_bits); with_reducible exact hN _ (Chg.refl _ _) (fun _ h => h)))
                  ((with_reducible apply Ch.Walk.eq); (case hd => rfl); (case hi => rfl); case h => (intro w2 hw2 N hN; (have hq := hw2.cell x2 HAX.out); simp only [Ch.depsOf, List.filterMap_nil, List.filterMap_cons, List.getElem?_toArray, List.getElem?_cons_zero, List.getElem?_cons_succ, Option.bind_some, List.nil_append, List.cons_append, Ch.Ob]; go_simp; (try go_bits); with_reducible exact hN _ (Chg.refl _ _) (fun _ h => h)))
                  ((with_reducible apply Ch.Walk.eq); (case hd => rfl); (case hi => rfl); case h => (intro w2 hw2 N hN; simp only [Ch.depsOf, List.filterMap_nil, List.filterMap_cons, List.getElem?_toArray, List.getElem?_cons_zero, List.getElem?_cons_succ, Option.bind_some, List.nil_append, List.cons_append, Ch.Ob]; go_simp; (try go_bits); with_reducible exact hN _ (Chg.refl _ _) (fun _ h => h)))
                  ((with_reducible apply Ch.Walk.eq); (case hd => rfl); (case hi => rfl); case h => (intro w2 hw2 N hN; (have hq := hw2.cell x3 HAX.out); simp only [Ch.depsOf, List.filterMap_nil, List.filterMap_cons, List.getElem?_toArray, List.getElem?_cons_zero, List.getElem?_cons_succ, Option.bind_some, List.nil_append, List.cons_append, Ch.Ob]; go_simp; (try go_bits); with_reducible exact hN _ (Chg.refl _ _) (fun _ h => h)))
                  ((with_reducible apply Ch.Walk.eq); (case hd => rfl); (case hi => rfl); case h => (intro w2 hw2 N hN; simp only [Ch.depsOf, List.filterMap_nil, List.filterMap_cons, List.getElem?_toArray, List.getElem?_cons_zero, List.getElem?_cons_succ, Option.bind_some, List.nil_append, List.cons_append, Ch.Ob]; go_simp; (try go_bits); with_reducible exact hN _ (Chg.refl _ _) (fun _ h => h)))
                  ((with_reducible apply Ch.Walk.eq); (case hd => rfl); (case hi => rfl); case h => (intro w2 hw2 N hN; (have hq := hw2.cell x4 HAX.out); simp only [Ch.depsOf, List.filterMap_nil, List.filterMap_cons, List.getElem?_toArray, List.getElem?_cons_zero, List.getElem?_cons_succ, Option.bind_some, List.nil_append, List.cons_append, Ch.Ob]; go_simp; (try go_bits); with_reducible exact hN _ (Chg.refl _ _) (fun _ h => h)))
                  refine Ch.Walk.chainE 0 (c := .int .i64 (R.1 : Nat)) rfl rfl ?_ ?_
                  · intro w6 hw6 vs hvs hF N hN
                    obtain rfl := List.eq_nil_of_length_eq_zero hvs
                    have F3 : BothS n0 w6 p q Av S3 T R.2 d := hF
                    have hdo := rdo_any F3.b HOK2.out HK.out xn xt (by have := HL1.out; omega) (by have := HL2.out; omega) xba xb xbc (by have := HL3.out; omega) (bytes_keep hw6 HBY3.out (fun hne y hy => HBN.out (Rg n0 Av) (fun k hk => hk.1) hne y hy)) (HBN.out T (fun k hk => (F3.t k hk).1)) xk
                    rw [HR.out, HW.out] at hdo
                    have HDO := Lib.hid hdo
                    have HF3 := Lib.hid F3
                    clear F3 hF hdo
                    simp only [Ch.depsOf, List.filterMap_nil, List.filterMap_cons, List.getElem?_toArray, List.getElem?_cons_zero, List.getElem?_cons_succ, Option.bind_some, List.nil_append, List.cons_append, Ch.Ob, Ch.chained_get, Option.map_some, List.idxOf?, List.findIdx?, List.findIdx?.go, Nat.reduceBEq, List.getD_cons_zero, List.getD_cons_succ, Nat.reduceAdd, if_true, if_false, Bool.false_eq_true]
                    go_simp
                    refine HDO.out.mono ?_
                    rintro e w7 ⟨rfl, h2, h3⟩
                    exact ⟨_, rfl, hN _ (HF3.out.rg2 h3) ⟨_, HF3.out.op2 h2 h3⟩⟩
                  (with_reducible apply Ch.Walk.eq); (case hd => rfl); (case hi => rfl); case h =>
                    intro w6 hw6 N hN
                    have hg6 := HG3.out.chg hw6 (fun h => by have h9 := World.block_lt_of_cell? _ _ HGH.out; have h8 := HN0.out; have h7 := h.1; omega)
                    have hba := lawBare_any R.1 w6 hg6
                    rw [HV.out] at hba
                    have HBA := Lib.hid hba
                    clear hg6 hba
                    simp only [Ch.depsOf, List.filterMap_nil, List.filterMap_cons, List.getElem?_toArray, List.getElem?_cons_zero, List.getElem?_cons_succ, Option.bind_some, List.nil_append, List.cons_append, Ch.Ob, Ch.chained_get, Option.map_some, List.idxOf?, List.findIdx?, List.findIdx?.go, Nat.reduceBEq, List.getD_cons_zero, List.getD_cons_succ, Nat.reduceAdd, if_true, if_false, Bool.false_eq_true]
                    go_simp
                    refine HBA.out.mono ?_
                    rintro e w7 ⟨rfl, hc7⟩
                    exact ⟨_, rfl, hN _ (hc7.weak (fun _ h => h.elim)) (PlF.nil hc7)⟩
                  ((with_reducible apply Ch.Walk.eq); (case hd => rfl); (case hi => rfl); case h => (intro w2 hw2 N hN; simp only [Ch.depsOf, List.filterMap_nil, List.filterMap_cons, List.getElem?_toArray, List.getElem?_cons_zero, List.getElem?_cons_succ, Option.bind_some, List.nil_append, List.cons_append, Ch.Ob]; go_simp; (try go_bits); with_reducible exact hN _ (Chg.refl _ _) (fun _ h => h)))
                  intro w6 hw6
                  simp only [List.nil_append, List.cons_append, Ch.Fin, List.map_cons, List.map_nil, List.getD_cons_zero, List.getD_cons_succ]
                  rintro ⟨T6, hb6⟩
                  have HB6 := Lib.hid hb6
                  have HC6 := Lib.hid (HR3.out.trans hw6 (fun _ h => .inl h))
                  clear hb6 hw6 x0 x1 x2 x3 x4 x5 wk
                  go_simp
                  go_wp2_with fail
                  go_meet
                  case rel => exact ⟨_, _, _, HB6.out, HC6.out⟩
              · have hd : decide (0 ≤ xw ∧ xw ≤ 5) = false := decide_eq_false hdo
                rw [hd]
                clear hd hdo
                by_cases hw6 : xw = 6
                · as_aux_lemma =>
                  have hw6t : (xw == 6) = true := beq_iff_eq.2 hw6
                  clear hw6
                  have HFL := Lib.hid (fail_any2 HB2.out.a xk HXK.out)
                  go_wp2_with fail
                  refine HFL.out.mono ?_
                  rintro e wy ⟨rfl, h2, h3⟩
                  have hb3 : BothS n0 wy p q Av S T (d.failed xk) d := by
                    have h4 := HB2.out.op1 (h2.weak (fun k hk => .inl hk)) h3
                    exact ⟨h4.lo, h2, h4.b, HB2.out.ap, fun k hk => h4.s k (.inl hk), h4.t, h4.av⟩
                  have HR3 := Lib.hid (HB2.out.rg1 h3)
                  obtain ⟨⟨vq, z0⟩, zf, hb4, hr4⟩ := fail_ref hb3
                  have x4 := HR3.out.cell x4 HAX.out
                  have HB4 := Lib.hid hb4
                  have HR4 := Lib.hid (HR3.out.trans hr4 (fun _ h => .inl h))
                  clear hb3 hb4 hr4 h2 h3 HFL
                  go_wp2_with fail
                  go_simp
                  go_meet
                  case rel => exact ⟨_, _, _, HB4.out, HR4.out⟩
                have hw6b : (xw == 6) = false := beq_eq_false_iff_ne.2 hw6
                by_cases hw7 : xw = 7
                · as_aux_lemma =>
                  have hw7t : (xw == 7) = true := beq_iff_eq.2 hw7
                  clear hw7
                  have HCR := Lib.hid (crash_any HB2.out.a xba xb xbc (by have := HL3.out; omega) HBY1.out (HBN.out S (fun k hk => (HB2.out.s k hk).1)))
                  go_wp2_with fail
                  refine HCR.out.mono ?_
                  rintro e wy ⟨rfl, h2, h3⟩
                  have hb3 := HB2.out.op1 h2 h3
                  have HOK2 := Lib.hid HB2.out.a.ok
                  have HR3 := Lib.hid (HB2.out.rg1 h3)
                  have HCR2 := Lib.hid (rcrash_any hb3.b HOK2.out xba xb xbc (by have := HL3.out; omega) (bytes_keep HR3.out HBY1.out (fun hne y hy => HBN.out (Rg n0 Av) (fun k hk => hk.1) hne y hy)) (HBN.out T (fun k hk => (hb3.t k hk).1)))
                  have HB3 := Lib.hid hb3
                  have x3 := HR3.out.cell x3 HAX.out
                  clear hb3 h2 h3 HCR
                  go_wp2_with fail
                  refine HCR2.out.mono ?_
                  rintro e wz ⟨rfl, h2, h3⟩
                  have HB4 := Lib.hid (HB3.out.op2 h2 h3)
                  have HR4 := Lib.hid (HR3.out.trans (HB3.out.rg2 h3) (fun _ h => .inl h))
                  clear h2 h3 HCR2
                  go_wp2_with fail
                  go_simp
                  go_meet
                  case rel => exact ⟨_, _, _, HB4.out, HR4.out⟩
                have hw7b : (xw == 7) = false := beq_eq_false_iff_ne.2 hw7
                as_aux_lemma =>
                  go_wp2_with fail
                  go_meet
                  case rel => exact ⟨_, _, _, HB2.out, HLT.out⟩
            obtain ⟨S2, T2, d2, hb2, hc2⟩ := hcut
            have x1 := hc2.cell x1 HAX.out
            have x2 := hc2.cell x2 HAX.out
            have x4 := hc2.cell x4 HAX.out
            have x5 := hc2.cell x5 HAX.out
            obtain ⟨q1, q2, q3, q4, q5, q6, q7, q8⟩ := hb2.looks
            have HU1 := Lib.hid q1
            have HU2 := Lib.hid q2
            have HZ1 := Lib.hid (q3 xn (by have := HL1.out; omega))
            have HZ2 := Lib.hid (q4 xn)
            have HT1 := Lib.hid (q5 xt)
            have HT2 := Lib.hid (q6 xt)
            have HD1 := Lib.hid (q7 xn (by have := HL1.out; omega) xk xm)
            have HD2 := Lib.hid (q8 xn xk xm)
            have HE1 := Lib.hid (q7 xn (by have := HL1.out; omega) 0 1048576)
            have HE2 := Lib.hid (q8 xn 0 1048576)
            have HB3 := Lib.hid (hb2.less HAG.out)
            have HC3 := Lib.hid hc2
            have HLS := Lib.hid (list_few hb2.a.ok xt)
            clear q1 q2 q3 q4 q5 q6 q7 q8 hb2 hc2
            generalize d2.list xt = LS at *
            generalize d2.read xn xk xm = LA at *
            generalize d2.read xn 0 1048576 = LB at *
            generalize d2.size xn = zz at *
            generalize d2.used = uu at *
            have hua : ((uu : Int) == (uu : Int)) = true := beq_self_eq_true _
            have hza : (zz == zz) = true := beq_self_eq_true zz
            have hla : (LA == LA) = true := beq_self_eq_true LA
            have hlb : (LB == LB) = true := beq_self_eq_true LB
            go_upto_region 42 with fail
            refine wp_region_mono _ (Chg Nil) (by as_aux_lemma => kernel_rfl) (fun _ _ _ h k => h.trans k (fun _ h => h.elim)) [[], [0], [], [2], [1, 3], [4], [5], [5], [5, 7], [5, 6, 8], [5], [5], [5, 11], [5, 10, 12], [5, 9, 13], [5, 14], [15], [16], [16], [16, 18], [16, 17, 19], [16], [16], [16, 22], [16, 21, 23], [16, 20, 24], [16, 25], [16, 26], [27], [28], [28], [28, 30], [28], [28, 32], [28], [28, 34], [28, 29, 31, 33, 35], [28, 36], [28], [28], [28, 39], [28], [28, 41], [28], [28, 43], [28, 38, 40, 42, 44], [28, 45], [28, 37, 46], [28, 47], [48], [49], [49], [49, 51], [49, 50, 52], [49, 53], [49], [49], [49, 56], [49, 55, 57], [49, 58], [49, 54, 59], [49, 60]] rfl (by as_aux_lemma => kernel_rfl) (Chg.refl _ _).drew ?_
            ((with_reducible apply Walk.eq); case h => (intro w2 hw2 N hN; simp only [depsOf, List.filterMap_nil, List.filterMap_cons, List.getElem?_toArray, List.getElem?_cons_zero, List.getElem?_cons_succ, Option.bind_some, List.nil_append, List.cons_append, Ob]; go_simp; (try go_bits); with_reducible exact hN _ (Chg.refl _ _)))
            (with_reducible apply Walk.eq); case h =>
              intro w2 hw2 N hN
              simp only [depsOf, List.filterMap_nil, List.filterMap_cons, List.getElem?_toArray, List.getElem?_cons_zero, List.getElem?_cons_succ, Option.bind_some, List.nil_append, List.cons_append, Ob]
              go_simp
              refine (HU1.out w2 hw2).mono ?_
              rintro e w4 ⟨rfl, hc4⟩
              exact ⟨_, rfl, hN _ hc4⟩
            ((with_reducible apply Walk.eq); case h => (intro w2 hw2 N hN; simp only [depsOf, List.filterMap_nil, List.filterMap_cons, List.getElem?_toArray, List.getElem?_cons_zero, List.getElem?_cons_succ, Option.bind_some, List.nil_append, List.cons_append, Ob]; go_simp; (try go_bits); with_reducible exact hN _ (Chg.refl _ _)))
            (with_reducible apply Walk.eq); case h =>
              intro w2 hw2 N hN
              simp only [depsOf, List.filterMap_nil, List.filterMap_cons, List.getElem?_toArray, List.getElem?_cons_zero, List.getElem?_cons_succ, Option.bind_some, List.nil_append, List.cons_append, Ob]
              go_simp
              refine (HU2.out w2 hw2).mono ?_
              rintro e w4 ⟨rfl, hc4⟩
              exact ⟨_, rfl, hN _ hc4⟩
            ((with_reducible apply Walk.eq); case h => (intro w2 hw2 N hN; simp only [depsOf, List.filterMap_nil, List.filterMap_cons, List.getElem?_toArray, List.getElem?_cons_zero, List.getElem?_cons_succ, Option.bind_some, List.nil_append, List.cons_append, Ob]; go_simp; (try go_bits); with_reducible exact hN _ (Chg.refl _ _)))
            ((with_reducible apply Walk.eq); case h => (intro w2 hw2 N hN; simp only [depsOf, List.filterMap_nil, List.filterMap_cons, List.getElem?_toArray, List.getElem?_cons_zero, List.getElem?_cons_succ, Option.bind_some, List.nil_append, List.cons_append, Ob]; go_simp; (try go_bits); with_reducible exact hN _ (Chg.refl _ _)))
            ((with_reducible apply Walk.eq); case h => (intro w2 hw2 N hN; simp only [depsOf, List.filterMap_nil, List.filterMap_cons, List.getElem?_toArray, List.getElem?_cons_zero, List.getElem?_cons_succ, Option.bind_some, List.nil_append, List.cons_append, Ob]; go_simp; (try go_bits); with_reducible exact hN _ (Chg.refl _ _)))
            ((with_reducible apply Walk.eq); case h => (intro w2 hw2 N hN; simp only [depsOf, List.filterMap_nil, List.filterMap_cons, List.getElem?_toArray, List.getElem?_cons_zero, List.getElem?_cons_succ, Option.bind_some, List.nil_append, List.cons_append, Ob]; go_simp; (try go_bits); with_reducible exact hN _ (Chg.refl _ _)))
            ((with_reducible apply Walk.eq); case h => (intro w2 hw2 N hN; have hq := hw2.cell x1 (fun h => h); simp only [depsOf, List.filterMap_nil, List.filterMap_cons, List.getElem?_toArray, List.getElem?_cons_zero, List.getElem?_cons_succ, Option.bind_some, List.nil_append, List.cons_append, Ob]; go_simp; with_reducible exact hN _ (Chg.refl _ _)))
            (with_reducible apply Walk.eq); case h =>
              intro w2 hw2 N hN
              simp only [depsOf, List.filterMap_nil, List.filterMap_cons, List.getElem?_toArray, List.getElem?_cons_zero, List.getElem?_cons_succ, Option.bind_some, List.nil_append, List.cons_append, Ob]
              go_simp
              refine (HZ1.out w2 hw2).mono ?_
              rintro e w4 ⟨rfl, hc4⟩
              exact ⟨_, rfl, hN _ hc4⟩
            ((with_reducible apply Walk.eq); case h => (intro w2 hw2 N hN; simp only [depsOf, List.filterMap_nil, List.filterMap_cons, List.getElem?_toArray, List.getElem?_cons_zero, List.getElem?_cons_succ, Option.bind_some, List.nil_append, List.cons_append, Ob]; go_simp; (try go_bits); with_reducible exact hN _ (Chg.refl _ _)))
            ((with_reducible apply Walk.eq); case h => (intro w2 hw2 N hN; simp only [depsOf, List.filterMap_nil, List.filterMap_cons, List.getElem?_toArray, List.getElem?_cons_zero, List.getElem?_cons_succ, Option.bind_some, List.nil_append, List.cons_append, Ob]; go_simp; (try go_bits); with_reducible exact hN _ (Chg.refl _ _)))
            ((with_reducible apply Walk.eq); case h => (intro w2 hw2 N hN; have hq := hw2.cell x1 (fun h => h); simp only [depsOf, List.filterMap_nil, List.filterMap_cons, List.getElem?_toArray, List.getElem?_cons_zero, List.getElem?_cons_succ, Option.bind_some, List.nil_append, List.cons_append, Ob]; go_simp; with_reducible exact hN _ (Chg.refl _ _)))
            (with_reducible apply Walk.eq); case h =>
              intro w2 hw2 N hN
              simp only [depsOf, List.filterMap_nil, List.filterMap_cons, List.getElem?_toArray, List.getElem?_cons_zero, List.getElem?_cons_succ, Option.bind_some, List.nil_append, List.cons_append, Ob]
              go_simp
              refine (HZ2.out w2 hw2).mono ?_
              rintro e w4 ⟨rfl, hc4⟩
              exact ⟨_, rfl, hN _ hc4⟩
            ((with_reducible apply Walk.eq); case h => (intro w2 hw2 N hN; simp only [depsOf, List.filterMap_nil, List.filterMap_cons, List.getElem?_toArray, List.getElem?_cons_zero, List.getElem?_cons_succ, Option.bind_some, List.nil_append, List.cons_append, Ob]; go_simp; (try go_bits); with_reducible exact hN _ (Chg.refl _ _)))
            ((with_reducible apply Walk.eq); case h => (intro w2 hw2 N hN; simp only [depsOf, List.filterMap_nil, List.filterMap_cons, List.getElem?_toArray, List.getElem?_cons_zero, List.getElem?_cons_succ, Option.bind_some, List.nil_append, List.cons_append, Ob]; go_simp; (try go_bits); with_reducible exact hN _ (Chg.refl _ _)))
            ((with_reducible apply Walk.eq); case h => (intro w2 hw2 N hN; simp only [depsOf, List.filterMap_nil, List.filterMap_cons, List.getElem?_toArray, List.getElem?_cons_zero, List.getElem?_cons_succ, Option.bind_some, List.nil_append, List.cons_append, Ob]; go_simp; (try go_bits); with_reducible exact hN _ (Chg.refl _ _)))
            ((with_reducible apply Walk.eq); case h => (intro w2 hw2 N hN; simp only [depsOf, List.filterMap_nil, List.filterMap_cons, List.getElem?_toArray, List.getElem?_cons_zero, List.getElem?_cons_succ, Option.bind_some, List.nil_append, List.cons_append, Ob]; go_simp; (try go_bits); with_reducible exact hN _ (Chg.refl _ _)))
            ((with_reducible apply Walk.eq); case h => (intro w2 hw2 N hN; simp only [depsOf, List.filterMap_nil, List.filterMap_cons, List.getElem?_toArray, List.getElem?_cons_zero, List.getElem?_cons_succ, Option.bind_some, List.nil_append, List.cons_append, Ob]; go_simp; (try go_bits); with_reducible exact hN _ (Chg.refl _ _)))
            ((with_reducible apply Walk.eq); case h => (intro w2 hw2 N hN; have hq := hw2.cell x2 (fun h => h); simp only [depsOf, List.filterMap_nil, List.filterMap_cons, List.getElem?_toArray, List.getElem?_cons_zero, List.getElem?_cons_succ, Option.bind_some, List.nil_append, List.cons_append, Ob]; go_simp; with_reducible exact hN _ (Chg.refl _ _)))
            refine Walk.sat (fun v w => TextsIn w v LS) (fun _ _ _ h k => h.chg k (fun _ h => h)) rfl ?_ ?_
            · intro w2 hw2 N hN
              simp only [depsOf, List.filterMap_nil, List.filterMap_cons, List.getElem?_toArray, List.getElem?_cons_zero, List.getElem?_cons_succ, Option.bind_some, List.nil_append, List.cons_append, Ob]
              go_simp
              refine (HT1.out w2 hw2).mono ?_
              rintro e w4 ⟨u, rfl, hu, hc4⟩
              exact ⟨_, rfl, hN _ _ hu hc4⟩
            ((with_reducible apply Walk.eq); case h => (intro w2 hw2 N hN; simp only [depsOf, List.filterMap_nil, List.filterMap_cons, List.getElem?_toArray, List.getElem?_cons_zero, List.getElem?_cons_succ, Option.bind_some, List.nil_append, List.cons_append, Ob]; go_simp; (try go_bits); with_reducible exact hN _ (Chg.refl _ _)))
            ((with_reducible apply Walk.eq); case h => (intro w2 hw2 N hN; simp only [depsOf, List.filterMap_nil, List.filterMap_cons, List.getElem?_toArray, List.getElem?_cons_zero, List.getElem?_cons_succ, Option.bind_some, List.nil_append, List.cons_append, Ob]; go_simp; (try go_bits); with_reducible exact hN _ (Chg.refl _ _)))
            ((with_reducible apply Walk.eq); case h => (intro w2 hw2 N hN; have hq := hw2.cell x2 (fun h => h); simp only [depsOf, List.filterMap_nil, List.filterMap_cons, List.getElem?_toArray, List.getElem?_cons_zero, List.getElem?_cons_succ, Option.bind_some, List.nil_append, List.cons_append, Ob]; go_simp; with_reducible exact hN _ (Chg.refl _ _)))
            refine Walk.sat (fun v w => TextsIn w v LS) (fun _ _ _ h k => h.chg k (fun _ h => h)) rfl ?_ ?_
            · intro w2 hw2 N hN
              simp only [depsOf, List.filterMap_nil, List.filterMap_cons, List.getElem?_toArray, List.getElem?_cons_zero, List.getElem?_cons_succ, Option.bind_some, List.nil_append, List.cons_append, Ob]
              go_simp
              refine (HT2.out w2 hw2).mono ?_
              rintro e w4 ⟨u, rfl, hu, hc4⟩
              exact ⟨_, rfl, hN _ _ hu hc4⟩
            (with_reducible apply Walk.eq); case h =>
              intro w2 hw2 N hN
              simp only [depsOf, List.filterMap_nil, List.filterMap_cons, List.getElem?_toArray, List.getElem?_cons_zero, List.getElem?_cons_succ, Option.bind_some, List.nil_append, List.cons_append, Ob]
              intro v hv v' hv'
              have HSM := Lib.hid (sameTexts_any v v' LS w2 HLS.out hv hv')
              clear hv hv'
              go_simp
              refine HSM.out.mono ?_
              rintro e w4 ⟨rfl, hc4⟩
              exact ⟨_, rfl, hN _ hc4⟩
            ((with_reducible apply Walk.eq); case h => (intro w2 hw2 N hN; simp only [depsOf, List.filterMap_nil, List.filterMap_cons, List.getElem?_toArray, List.getElem?_cons_zero, List.getElem?_cons_succ, Option.bind_some, List.nil_append, List.cons_append, Ob]; go_simp; (try go_bits); with_reducible exact hN _ (Chg.refl _ _)))
            ((with_reducible apply Walk.eq); case h => (intro w2 hw2 N hN; simp only [depsOf, List.filterMap_nil, List.filterMap_cons, List.getElem?_toArray, List.getElem?_cons_zero, List.getElem?_cons_succ, Option.bind_some, List.nil_append, List.cons_append, Ob]; go_simp; (try go_bits); with_reducible exact hN _ (Chg.refl _ _)))
            ((with_reducible apply Walk.eq); case h => (intro w2 hw2 N hN; simp only [depsOf, List.filterMap_nil, List.filterMap_cons, List.getElem?_toArray, List.getElem?_cons_zero, List.getElem?_cons_succ, Option.bind_some, List.nil_append, List.cons_append, Ob]; go_simp; (try go_bits); with_reducible exact hN _ (Chg.refl _ _)))
            ((with_reducible apply Walk.eq); case h => (intro w2 hw2 N hN; simp only [depsOf, List.filterMap_nil, List.filterMap_cons, List.getElem?_toArray, List.getElem?_cons_zero, List.getElem?_cons_succ, Option.bind_some, List.nil_append, List.cons_append, Ob]; go_simp; (try go_bits); with_reducible exact hN _ (Chg.refl _ _)))
            ((with_reducible apply Walk.eq); case h => (intro w2 hw2 N hN; simp only [depsOf, List.filterMap_nil, List.filterMap_cons, List.getElem?_toArray, List.getElem?_cons_zero, List.getElem?_cons_succ, Option.bind_some, List.nil_append, List.cons_append, Ob]; go_simp; (try go_bits); with_reducible exact hN _ (Chg.refl _ _)))
            ((with_reducible apply Walk.eq); case h => (intro w2 hw2 N hN; have hq := hw2.cell x1 (fun h => h); simp only [depsOf, List.filterMap_nil, List.filterMap_cons, List.getElem?_toArray, List.getElem?_cons_zero, List.getElem?_cons_succ, Option.bind_some, List.nil_append, List.cons_append, Ob]; go_simp; with_reducible exact hN _ (Chg.refl _ _)))
            ((with_reducible apply Walk.eq); case h => (intro w2 hw2 N hN; simp only [depsOf, List.filterMap_nil, List.filterMap_cons, List.getElem?_toArray, List.getElem?_cons_zero, List.getElem?_cons_succ, Option.bind_some, List.nil_append, List.cons_append, Ob]; go_simp; (try go_bits); with_reducible exact hN _ (Chg.refl _ _)))
            ((with_reducible apply Walk.eq); case h => (intro w2 hw2 N hN; have hq := hw2.cell x4 (fun h => h); simp only [depsOf, List.filterMap_nil, List.filterMap_cons, List.getElem?_toArray, List.getElem?_cons_zero, List.getElem?_cons_succ, Option.bind_some, List.nil_append, List.cons_append, Ob]; go_simp; with_reducible exact hN _ (Chg.refl _ _)))
            ((with_reducible apply Walk.eq); case h => (intro w2 hw2 N hN; simp only [depsOf, List.filterMap_nil, List.filterMap_cons, List.getElem?_toArray, List.getElem?_cons_zero, List.getElem?_cons_succ, Option.bind_some, List.nil_append, List.cons_append, Ob]; go_simp; (try go_bits); with_reducible exact hN _ (Chg.refl _ _)))
            ((with_reducible apply Walk.eq); case h => (intro w2 hw2 N hN; have hq := hw2.cell x5 (fun h => h); simp only [depsOf, List.filterMap_nil, List.filterMap_cons, List.getElem?_toArray, List.getElem?_cons_zero, List.getElem?_cons_succ, Option.bind_some, List.nil_append, List.cons_append, Ob]; go_simp; with_reducible exact hN _ (Chg.refl _ _)))
            refine Walk.sat (fun v w => ∃ a c, v = .slice a LA.length c ∧ BytesAt w a LA) (fun _ _ _ ⟨a, c, h1, h2⟩ k => ⟨a, c, h1, k.bytesAt h2 (fun _ _ h => h)⟩) rfl ?_ ?_
            · intro w2 hw2 N hN
              simp only [depsOf, List.filterMap_nil, List.filterMap_cons, List.getElem?_toArray, List.getElem?_cons_zero, List.getElem?_cons_succ, Option.bind_some, List.nil_append, List.cons_append, Ob]
              go_simp
              refine (HD1.out w2 hw2).mono ?_
              rintro e w4 ⟨a, c, rfl, hu, hc4⟩
              exact ⟨_, rfl, hN _ _ ⟨a, c, rfl, hu⟩ hc4⟩
            (with_reducible apply Walk.eq (c := .string ⟨LA.toArray⟩)); case h =>
              intro w2 hw2 N hN
              simp only [depsOf, List.filterMap_nil, List.filterMap_cons, List.getElem?_toArray, List.getElem?_cons_zero, List.getElem?_cons_succ, Option.bind_some, List.nil_append, List.cons_append, Ob]
              rintro v ⟨a, c, rfl, hby⟩
              have hcv := conv_bytes (dst := 9) Tryz.underlying35 Tryz.underlying5 Tryz.underlying9 hby c
              clear hby
              go_simp
              exact hN _ (Chg.refl _ _)
            ((with_reducible apply Walk.eq); case h => (intro w2 hw2 N hN; simp only [depsOf, List.filterMap_nil, List.filterMap_cons, List.getElem?_toArray, List.getElem?_cons_zero, List.getElem?_cons_succ, Option.bind_some, List.nil_append, List.cons_append, Ob]; go_simp; (try go_bits); with_reducible exact hN _ (Chg.refl _ _)))
            ((with_reducible apply Walk.eq); case h => (intro w2 hw2 N hN; simp only [depsOf, List.filterMap_nil, List.filterMap_cons, List.getElem?_toArray, List.getElem?_cons_zero, List.getElem?_cons_succ, Option.bind_some, List.nil_append, List.cons_append, Ob]; go_simp; (try go_bits); with_reducible exact hN _ (Chg.refl _ _)))
            ((with_reducible apply Walk.eq); case h => (intro w2 hw2 N hN; have hq := hw2.cell x1 (fun h => h); simp only [depsOf, List.filterMap_nil, List.filterMap_cons, List.getElem?_toArray, List.getElem?_cons_zero, List.getElem?_cons_succ, Option.bind_some, List.nil_append, List.cons_append, Ob]; go_simp; with_reducible exact hN _ (Chg.refl _ _)))
            ((with_reducible apply Walk.eq); case h => (intro w2 hw2 N hN; simp only [depsOf, List.filterMap_nil, List.filterMap_cons, List.getElem?_toArray, List.getElem?_cons_zero, List.getElem?_cons_succ, Option.bind_some, List.nil_append, List.cons_append, Ob]; go_simp; (try go_bits); with_reducible exact hN _ (Chg.refl _ _)))
            ((with_reducible apply Walk.eq); case h => (intro w2 hw2 N hN; have hq := hw2.cell x4 (fun h => h); simp only [depsOf, List.filterMap_nil, List.filterMap_cons, List.getElem?_toArray, List.getElem?_cons_zero, List.getElem?_cons_succ, Option.bind_some, List.nil_append, List.cons_append, Ob]; go_simp; with_reducible exact hN _ (Chg.refl _ _)))
            ((with_reducible apply Walk.eq); case h => (intro w2 hw2 N hN; simp only [depsOf, List.filterMap_nil, List.filterMap_cons, List.getElem?_toArray, List.getElem?_cons_zero, List.getElem?_cons_succ, Option.bind_some, List.nil_append, List.cons_append, Ob]; go_simp; (try go_bits); with_reducible exact hN _ (Chg.refl _ _)))
            ((with_reducible apply Walk.eq); case h => (intro w2 hw2 N hN; have hq := hw2.cell x5 (fun h => h); simp only [depsOf, List.filterMap_nil, List.filterMap_cons, List.getElem?_toArray, List.getElem?_cons_zero, List.getElem?_cons_succ, Option.bind_some, List.nil_append, List.cons_append, Ob]; go_simp; with_reducible exact hN _ (Chg.refl _ _)))
            refine Walk.sat (fun v w => ∃ a c, v = .slice a LA.length c ∧ BytesAt w a LA) (fun _ _ _ ⟨a, c, h1, h2⟩ k => ⟨a, c, h1, k.bytesAt h2 (fun _ _ h => h)⟩) rfl ?_ ?_
            · intro w2 hw2 N hN
              simp only [depsOf, List.filterMap_nil, List.filterMap_cons, List.getElem?_toArray, List.getElem?_cons_zero, List.getElem?_cons_succ, Option.bind_some, List.nil_append, List.cons_append, Ob]
              go_simp
              refine (HD2.out w2 hw2).mono ?_
              rintro e w4 ⟨a, c, rfl, hu, hc4⟩
              exact ⟨_, rfl, hN _ _ ⟨a, c, rfl, hu⟩ hc4⟩
            (with_reducible apply Walk.eq (c := .string ⟨LA.toArray⟩)); case h =>
              intro w2 hw2 N hN
              simp only [depsOf, List.filterMap_nil, List.filterMap_cons, List.getElem?_toArray, List.getElem?_cons_zero, List.getElem?_cons_succ, Option.bind_some, List.nil_append, List.cons_append, Ob]
              rintro v ⟨a, c, rfl, hby⟩
              have hcv := conv_bytes (dst := 9) Tryz.underlying35 Tryz.underlying5 Tryz.underlying9 hby c
              clear hby
              go_simp
              exact hN _ (Chg.refl _ _)
            ((with_reducible apply Walk.eq); case h => (intro w2 hw2 N hN; simp only [depsOf, List.filterMap_nil, List.filterMap_cons, List.getElem?_toArray, List.getElem?_cons_zero, List.getElem?_cons_succ, Option.bind_some, List.nil_append, List.cons_append, Ob]; go_simp; with_reducible exact hN _ (Chg.refl _ _)))
            ((with_reducible apply Walk.eq); case h => (intro w2 hw2 N hN; simp only [depsOf, List.filterMap_nil, List.filterMap_cons, List.getElem?_toArray, List.getElem?_cons_zero, List.getElem?_cons_succ, Option.bind_some, List.nil_append, List.cons_append, Ob]; go_simp; (try go_bits); with_reducible exact hN _ (Chg.refl _ _)))
            ((with_reducible apply Walk.eq); case h => (intro w2 hw2 N hN; simp only [depsOf, List.filterMap_nil, List.filterMap_cons, List.getElem?_toArray, List.getElem?_cons_zero, List.getElem?_cons_succ, Option.bind_some, List.nil_append, List.cons_append, Ob]; go_simp; (try go_bits); with_reducible exact hN _ (Chg.refl _ _)))
            ((with_reducible apply Walk.eq); case h => (intro w2 hw2 N hN; simp only [depsOf, List.filterMap_nil, List.filterMap_cons, List.getElem?_toArray, List.getElem?_cons_zero, List.getElem?_cons_succ, Option.bind_some, List.nil_append, List.cons_append, Ob]; go_simp; (try go_bits); with_reducible exact hN _ (Chg.refl _ _)))
            ((with_reducible apply Walk.eq); case h => (intro w2 hw2 N hN; simp only [depsOf, List.filterMap_nil, List.filterMap_cons, List.getElem?_toArray, List.getElem?_cons_zero, List.getElem?_cons_succ, Option.bind_some, List.nil_append, List.cons_append, Ob]; go_simp; (try go_bits); with_reducible exact hN _ (Chg.refl _ _)))
            ((with_reducible apply Walk.eq); case h => (intro w2 hw2 N hN; have hq := hw2.cell x1 (fun h => h); simp only [depsOf, List.filterMap_nil, List.filterMap_cons, List.getElem?_toArray, List.getElem?_cons_zero, List.getElem?_cons_succ, Option.bind_some, List.nil_append, List.cons_append, Ob]; go_simp; with_reducible exact hN _ (Chg.refl _ _)))
            refine Walk.sat (fun v w => ∃ a c, v = .slice a LB.length c ∧ BytesAt w a LB) (fun _ _ _ ⟨a, c, h1, h2⟩ k => ⟨a, c, h1, k.bytesAt h2 (fun _ _ h => h)⟩) rfl ?_ ?_
            · intro w2 hw2 N hN
              simp only [depsOf, List.filterMap_nil, List.filterMap_cons, List.getElem?_toArray, List.getElem?_cons_zero, List.getElem?_cons_succ, Option.bind_some, List.nil_append, List.cons_append, Ob]
              go_simp
              refine (HE1.out w2 hw2).mono ?_
              rintro e w4 ⟨a, c, rfl, hu, hc4⟩
              exact ⟨_, rfl, hN _ _ ⟨a, c, rfl, hu⟩ hc4⟩
            (with_reducible apply Walk.eq (c := .string ⟨LB.toArray⟩)); case h =>
              intro w2 hw2 N hN
              simp only [depsOf, List.filterMap_nil, List.filterMap_cons, List.getElem?_toArray, List.getElem?_cons_zero, List.getElem?_cons_succ, Option.bind_some, List.nil_append, List.cons_append, Ob]
              rintro v ⟨a, c, rfl, hby⟩
              have hcv := conv_bytes (dst := 9) Tryz.underlying35 Tryz.underlying5 Tryz.underlying9 hby c
              clear hby
              go_simp
              exact hN _ (Chg.refl _ _)
            ((with_reducible apply Walk.eq); case h => (intro w2 hw2 N hN; simp only [depsOf, List.filterMap_nil, List.filterMap_cons, List.getElem?_toArray, List.getElem?_cons_zero, List.getElem?_cons_succ, Option.bind_some, List.nil_append, List.cons_append, Ob]; go_simp; (try go_bits); with_reducible exact hN _ (Chg.refl _ _)))
            ((with_reducible apply Walk.eq); case h => (intro w2 hw2 N hN; simp only [depsOf, List.filterMap_nil, List.filterMap_cons, List.getElem?_toArray, List.getElem?_cons_zero, List.getElem?_cons_succ, Option.bind_some, List.nil_append, List.cons_append, Ob]; go_simp; (try go_bits); with_reducible exact hN _ (Chg.refl _ _)))
            ((with_reducible apply Walk.eq); case h => (intro w2 hw2 N hN; have hq := hw2.cell x1 (fun h => h); simp only [depsOf, List.filterMap_nil, List.filterMap_cons, List.getElem?_toArray, List.getElem?_cons_zero, List.getElem?_cons_succ, Option.bind_some, List.nil_append, List.cons_append, Ob]; go_simp; with_reducible exact hN _ (Chg.refl _ _)))
            refine Walk.sat (fun v w => ∃ a c, v = .slice a LB.length c ∧ BytesAt w a LB) (fun _ _ _ ⟨a, c, h1, h2⟩ k => ⟨a, c, h1, k.bytesAt h2 (fun _ _ h => h)⟩) rfl ?_ ?_
            · intro w2 hw2 N hN
              simp only [depsOf, List.filterMap_nil, List.filterMap_cons, List.getElem?_toArray, List.getElem?_cons_zero, List.getElem?_cons_succ, Option.bind_some, List.nil_append, List.cons_append, Ob]
              go_simp
              refine (HE2.out w2 hw2).mono ?_
              rintro e w4 ⟨a, c, rfl, hu, hc4⟩
              exact ⟨_, rfl, hN _ _ ⟨a, c, rfl, hu⟩ hc4⟩
            (with_reducible apply Walk.eq (c := .string ⟨LB.toArray⟩)); case h =>
              intro w2 hw2 N hN
              simp only [depsOf, List.filterMap_nil, List.filterMap_cons, List.getElem?_toArray, List.getElem?_cons_zero, List.getElem?_cons_succ, Option.bind_some, List.nil_append, List.cons_append, Ob]
              rintro v ⟨a, c, rfl, hby⟩
              have hcv := conv_bytes (dst := 9) Tryz.underlying35 Tryz.underlying5 Tryz.underlying9 hby c
              clear hby
              go_simp
              exact hN _ (Chg.refl _ _)
            ((with_reducible apply Walk.eq); case h => (intro w2 hw2 N hN; simp only [depsOf, List.filterMap_nil, List.filterMap_cons, List.getElem?_toArray, List.getElem?_cons_zero, List.getElem?_cons_succ, Option.bind_some, List.nil_append, List.cons_append, Ob]; go_simp; with_reducible exact hN _ (Chg.refl _ _)))
            ((with_reducible apply Walk.eq); case h => (intro w2 hw2 N hN; simp only [depsOf, List.filterMap_nil, List.filterMap_cons, List.getElem?_toArray, List.getElem?_cons_zero, List.getElem?_cons_succ, Option.bind_some, List.nil_append, List.cons_append, Ob]; go_simp; (try go_bits); with_reducible exact hN _ (Chg.refl _ _)))
            intro w6 hw6
            simp only [List.nil_append, List.cons_append, Fin]
            rintro _ _ _ _ _ _ _ _ _ _ _ _
            have HW6 := Lib.hid hw6
            clear hw6 x1 x2 x4 x5 hua hza hla hlb
            go_simp
            go_wp2_with fail
            go_roundw
            case rel => exact ⟨_, i + 1, S2, T2, d2, rfl, by omega, by go_num, HB3.out.nil HW6.out, (HWD1.out.chg HC3.out HAW.out).chg HW6.out (fun h => h), (HLO.out _ HC3.out).trans HW6.out (fun _ h => h.elim)⟩
            case measure => simp [RowKit.intOf]; omega
    · as_aux_lemma =>
      have hii : ¬ (i : Int) < (xs.length : Int) := by omega
      go_wp2_with fail
      go_ret
      exact ⟨rfl, HC.out⟩
end Go.Proofs.YthjdkhjdgmnliaaGreatDoor
