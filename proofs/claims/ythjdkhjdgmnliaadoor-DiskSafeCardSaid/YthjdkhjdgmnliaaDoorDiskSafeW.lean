/-
  The walks of DiskSafe.
-/
import Derived.Test.YthjdkhjdgmnliaaDoorDkCrash
import Derived.Test.YthjdkhjdgmnliaaDoorDiskSafeL
import Derived.Lib.SlBytesConst
set_option linter.unusedSimpArgs false
set_option linter.unusedVariables false
namespace Go.Proofs.YthjdkhjdgmnliaaDoor
open Go.RowKit Go.Maps

/-- A disk that was made since w0. -/
structure RunS (w0 w : World) (p : Nat) (S : Nat → Prop) (d : Dk) : Prop where
  at' : DiskAt w p S d
  lo : ∀ k, S k → w0.heap.size ≤ k
  hi : ∀ k, S k → k < w.heap.size
  chg : Chg Nil w0 w
theorem RunS.op {w0 w w' : World} {p : Nat} {S : Nat → Prop} {d d' : Dk} (h : RunS w0 w p S d) (ha : DiskAt w' p (Gr S w w') d') (hc : Chg S w w') : RunS w0 w' p (Gr S w w') d' := by
  refine ⟨ha, fun k hk => ?_, fun k hk => ?_, h.chg.trans hc (fun k hk => .inr (h.lo k hk))⟩
  · rcases hk with hk | ⟨hk, _⟩
    · exact h.lo k hk
    · have := h.chg.size; omega
  · rcases hk with hk | ⟨_, hk⟩
    · have := h.hi k hk; have := hc.size; omega
    · exact hk
theorem RunS.nil {w0 w w' : World} {p : Nat} {S : Nat → Prop} {d : Dk} (h : RunS w0 w p S d) (hc : Chg Nil w w') : RunS w0 w' p S d :=
  ⟨h.at'.chg hc (fun _ _ h => h), h.lo, fun k hk => by have := h.hi k hk; have := hc.size; omega, h.chg.trans hc (fun _ h => h.elim)⟩
theorem RunS.start {w0 w w' : World} {r : Nat} {e : Ending} (h0 : Chg Nil w0 w) (h : NewDisk w w' r e) (hr : r ≤ 1048576) : ∃ p, e = .returned (.tuple #[.pointer (some ⟨p, 0, none⟩), .nilIface]) ∧ RunS w0 w' p (fun k => w.heap.size ≤ k ∧ k < w'.heap.size) (Dk.fresh r) := by
  obtain ⟨p, mb, he, hp, hm, hd, hc⟩ := h
  refine ⟨p, he, ⟨mb, [], _, _, hd, rfl, fun k hk => ⟨?_, hd.lt k hk⟩, ⟨by simp [Dk.fresh, Dk.names], by simp [Dk.fresh], by simp [Dk.fresh, Dk.used], hr, by simp [Dk.fresh], by simp [Dk.fresh], by simp [Dk.fresh, Dk.names]⟩⟩, fun k hk => ?_, fun k hk => hk.2, h0.trans hc (fun _ h => h.elim)⟩
  · rcases hk with rfl | rfl | ⟨q, hq, _⟩
    · exact hp
    · exact hm
    · simp at hq
  · have := h0.size; have := hk.1; omega

theorem bytes_new (w : World) (l : List UInt8) (fr : Nat × Nat) : BytesAt (w.alloc (.cells (l.map bval).toArray 5 fr)) (some ⟨w.heap.size, 0, none⟩) l := by
  intro i hi
  refine ⟨_, _, rfl, ?_⟩
  rw [World.cell?_alloc_mark]
  simp [hi]
theorem cut_str {a b : List UInt8} (h : b = a.take b.length) : (ByteArray.mk a.toArray).extract 0 b.length = ByteArray.mk b.toArray := by
  rw [ByteArray.ext_iff]
  have h2 : a.toArray.extract 0 b.length = b.toArray := by
    rw [List.extract_toArray]
    congr 1
    rw [List.extract_eq_take_drop]
    simp only [List.drop_zero, Nat.sub_zero]
    exact h.symm
  simpa using h2
theorem cat_strs (a b : List UInt8) : (ByteArray.mk a.toArray) ++ (ByteArray.mk b.toArray) = ByteArray.mk (a ++ b).toArray := by
  rw [ByteArray.ext_iff]
  simp

theorem aName : dkName [97] = true := by decide

theorem make_run {w0 w : World} {p : Nat} {S : Nat → Prop} {r : Nat} (h : RunS w0 w p S (Dk.fresh r)) :
    Calls Tryd.prog 6 #[.pointer (some ⟨p, 0, none⟩), .string ⟨#[97]⟩] w fun e w' => e = .returned .nilIface ∧ RunS w0 w' p (Gr S w w') (one r [97] ⟨[], 0⟩) := by
  have := make_any h.at' ⟨#[97]⟩ (by decide)
  have e1 : (ByteArray.mk #[97]).data.toList = [97] := rfl
  rw [e1, fresh_make aName] at this
  exact this.mono fun e w' ⟨h1, h2, h3⟩ => ⟨h1, h.op h2 h3⟩
theorem add_run {w0 w : World} {p : Nat} {S : Nat → Prop} {r : Nat} {f : Fl} (h : RunS w0 w p S (one r [97] f)) (ba : Option Addr) (l : List UInt8) (bc : Nat) (hl : f.bytes.length + l.length ≤ r) (hr : r ≤ 1048576) (hb : BytesAt w ba l) (hbn : l ≠ [] → ∀ x, ba = some x → ¬ S x.block) :
    Calls Tryd.prog 7 #[.pointer (some ⟨p, 0, none⟩), .string ⟨#[97]⟩, .slice ba l.length bc] w fun e w' => e = .returned .nilIface ∧ RunS w0 w' p (Gr S w w') (one r [97] ⟨f.bytes ++ l, f.safe⟩) := by
  have := add_any h.at' ⟨#[97]⟩ (by decide) ba l bc (by omega) hb hbn
  have e1 : (ByteArray.mk #[97]).data.toList = [97] := rfl
  rw [e1, one_add hl] at this
  exact this.mono fun e w' ⟨h1, h2, h3⟩ => ⟨h1, h.op h2 h3⟩
theorem sync_run {w0 w : World} {p : Nat} {S : Nat → Prop} {r : Nat} {f : Fl} (h : RunS w0 w p S (one r [97] f)) :
    Calls Tryd.prog 8 #[.pointer (some ⟨p, 0, none⟩), .string ⟨#[97]⟩] w fun e w' => e = .returned .nilIface ∧ RunS w0 w' p (Gr S w w') (one r [97] ⟨f.bytes, f.bytes.length⟩) := by
  have := sync_any h.at' ⟨#[97]⟩ (by decide)
  have e1 : (ByteArray.mk #[97]).data.toList = [97] := rfl
  rw [e1, one_sync] at this
  exact this.mono fun e w' ⟨h1, h2, h3⟩ => ⟨h1, h.op h2 h3⟩
theorem crash_run {w0 w : World} {p : Nat} {S : Nat → Prop} {r : Nat} {f : Fl} (h : RunS w0 w p S (one r [97] f)) (fa : Option Addr) (fates : List UInt8) (fc : Nat) (hl : fates.length ≤ 4611686018427387904) (hb : BytesAt w fa fates) (hbn : fates ≠ [] → ∀ x, fa = some x → ¬ S x.block) :
    Calls Tryd.prog 10 #[.pointer (some ⟨p, 0, none⟩), .slice fa fates.length fc] w fun e w' => e = .returned (.tuple #[]) ∧ RunS w0 w' p (Gr S w w') (one r [97] (crashed f fates 0)) := by
  have := crash_any h.at' fa fates fc hl hb hbn
  rw [one_crash] at this
  exact this.mono fun e w' ⟨h1, h2, h3⟩ => ⟨h1, h.op h2 h3⟩
theorem read_run {w0 w : World} {p : Nat} {S : Nat → Prop} {r : Nat} {f : Fl} (h : RunS w0 w p S (one r [97] f)) (m : Int) (hf : f.bytes.length ≤ 1048576) (hm : (f.bytes.length : Int) ≤ m) :
    Calls Tryd.prog 11 #[.pointer (some ⟨p, 0, none⟩), .string ⟨#[97]⟩, .int .i64 0, .int .i64 m] w fun e w' => ∃ a c, e = .returned (.slice a f.bytes.length c) ∧ BytesAt w' a f.bytes ∧ Chg Nil w w' := by
  have := read_any h.at' ⟨#[97]⟩ (by decide) 0 m
  have e1 : (ByteArray.mk #[97]).data.toList = [97] := rfl
  rw [e1, one_read _ _ _ hf m hm] at this
  refine this.mono fun e w' ⟨v, h1, ⟨a, c, hv, hb, _, _⟩, h3⟩ => ⟨a, c, by rw [h1, hv], hb, h3⟩

/-- A number within n. -/
def pickN (a : Int) (n : Nat) : Nat := (a % 18446744073709551616 % (n : Int)).toNat
theorem pickN_lt {a : Int} {n : Nat} (h : 0 < n) : pickN a n < n := by
  unfold pickN
  have h1 : 0 ≤ a % 18446744073709551616 % (n : Int) := Int.emod_nonneg _ (by omega)
  have h2 : a % 18446744073709551616 % (n : Int) < n := Int.emod_lt_of_pos _ (by omega)
  omega
theorem pick_eq {a : Int} {n : Nat} (h : 0 < n) (hn : n ≤ 1000000) : wrap64 ((IntKind.u64.wrap a).tmod (n : Int)) = (pickN a n : Nat) := by
  rw [IntKind.wrap_u64, Int.tmod_eq_emod_of_nonneg (Int.emod_nonneg _ (by omega))]
  have h1 : 0 ≤ a % 18446744073709551616 % (n : Int) := Int.emod_nonneg _ (by omega)
  have h2 : a % 18446744073709551616 % (n : Int) < n := Int.emod_lt_of_pos _ (by omega)
  unfold pickN
  rw [Int.toNat_of_nonneg h1]
  generalize a % 18446744073709551616 % (n : Int) = x at *
  unfold wrap64
  omega

set_option maxRecDepth 100000 in
theorem pick_any (a : Int) (n : Nat) (w : World) (h0 : 0 < n) (hn : n ≤ 1000000) :
    Calls Tryd.prog 9 #[.int .i64 a, .int .i64 n] w fun e w' => e = .returned (.int .i64 (pickN a n : Nat)) ∧ w = w' := by
  have HP := Lib.hid (pick_eq (a := a) h0 hn)
  go_enter Tryd.func9, Tryd.ntmps9
  go_wp2
  go_ret
  exact ⟨by rw [← HP.out]; rfl, rfl⟩

set_option maxHeartbeats 4000000 in
set_option maxRecDepth 20000 in
theorem kept_any (w : World) : Calls Tryd.prog 5 #[] w fun e w' => e = .returned (.bool true) ∧ Chg Nil w w' := by
  have HNEW := Lib.hid (new_any 10 (by omega) w)
  go_enter Tryd.func5, Tryd.ntmps5
  go_wp2_with (go_at_call 4; refine HNEW.out.mono ?_)
  rintro e w1 hnew
  obtain ⟨p, rfl, hr1⟩ := RunS.start (Chg.refl Nil w) hnew (by omega)
  have HM := Lib.hid (make_run hr1)
  clear hnew hr1 HNEW
  go_wp2_with (go_at_call 6; refine HM.out.mono ?_)
  rintro e w2 ⟨rfl, hr2⟩
  have HR2 := Lib.hid hr2
  clear HM hr2
  have kc := fun (w : World) (C : Array Value) (n c : Nat) => Lib.run_convert_bytes_const (P := Tryd.prog) w 22 5 C n c Tryd.underlying22 Tryd.underlying5
  go_wp2_with (go_at_call 7; refine (add_run (HR2.out.nil ((Chg.refl _ _).alloc _)) (some ⟨w2.heap.size, 0, none⟩) [120, 121] 2 (by simp) (by omega) (bytes_new w2 [120, 121] _) (fun _ x hx hk => by cases hx; exact absurd (HR2.out.hi _ hk) (by simp))).mono ?_)
  rintro e w3 rfl hr3
  have HS := Lib.hid (sync_run hr3)
  clear HR2 hr3
  go_wp2_with (go_at_call 8; refine HS.out.mono ?_)
  rintro e w4 ⟨rfl, hr4⟩
  have HR4 := Lib.hid hr4
  clear HS hr4
  go_wp2_with (go_at_call 7; refine (add_run (HR4.out.nil ((Chg.refl _ _).alloc _)) (some ⟨w4.heap.size, 0, none⟩) [122] 1 (by simp) (by omega) (bytes_new w4 [122] _) (fun _ x hx hk => by cases hx; exact absurd (HR4.out.hi _ hk) (by simp))).mono ?_)
  rintro e w5 rfl hr5
  have HC := Lib.hid (crash_run hr5 none [] 0 (by simp) (fun i hi => absurd hi (by simp)) (fun h => absurd rfl h))
  clear HR4 hr5
  go_wp2_with (go_at_call 10; refine HC.out.mono ?_)
  rintro e w6 ⟨rfl, hr6⟩
  have hcr : crashed ⟨[120, 121, 122], 2⟩ [] 0 = ⟨[120, 121], 2⟩ := rfl
  simp only [hcr] at hr6
  have HRD := Lib.hid (read_run hr6 9 (by simp) (by simp))
  have HR6 := Lib.hid hr6
  clear HC hr6 hcr
  go_wp2_with (go_at_call 11; refine HRD.out.mono ?_)
  rintro e w7 ⟨a, c, rfl, hb, hc7⟩
  have hcv := conv_bytes (dst := 9) Tryd.underlying22 Tryd.underlying5 Tryd.underlying9 hb c
  have hs : (ByteArray.mk ([120, 121] : List UInt8).toArray) = { data := #[120, 121] } := rfl
  rw [hs] at hcv
  simp only [List.length_cons, List.length_nil, Nat.zero_add, Nat.reduceAdd] at hcv
  have HCH := Lib.hid (HR6.out.chg.trans hc7 (fun _ h => h.elim))
  clear HRD HR6 hb hc7
  go_wp2_with fail
  go_ret
  exact ⟨rfl, HCH.out⟩

set_option maxHeartbeats 4000000 in
set_option maxRecDepth 20000 in
theorem diskSafe_any (a0 : Option Addr) (l0 : List UInt8) (cap0 : Nat) (a1 : Option Addr) (l1 : List UInt8) (cap1 : Nat) (a2 : Option Addr) (l2 : List UInt8) (cap2 : Nat) (x : Int) (W : World) (hl0 : l0.length ≤ 2305843009213693952) (hl1 : l1.length ≤ 2305843009213693952) (hl2 : l2.length ≤ 2305843009213693952) (hb0 : BytesAt W a0 l0) (hb1 : BytesAt W a1 l1) (hb2 : BytesAt W a2 l2) :
    Calls Tryd.prog 3 #[.slice a0 l0.length cap0, .slice a1 l1.length cap1, .slice a2 l2.length cap2, .int .i64 x] W fun e W' => e = .returned (.bool true) ∧ Chg Nil W W' := by
  have hadd : wrap64 ((l0.length : Int) + (l1.length : Int)) = (l0.length : Int) + (l1.length : Int) := by unfold wrap64; omega
  have HB0 := Lib.hid hb0
  have HB1 := Lib.hid hb1
  have HB2 := Lib.hid hb2
  have HL2 := Lib.hid hl2
  clear hb0 hb1 hb2 hl2
  by_cases hbig : (5000 : Int) < (l0.length : Int) + (l1.length : Int)
  · clear hl0 hl1
    go_enter Tryd.func3, Tryd.ntmps3
    go_wp2_with fail
    go_ret
    exact ⟨rfl, Chg.refl _ _⟩
  · have hsum : l0.length + l1.length ≤ 5000 := by omega
    have HNEW := Lib.hid (new_any 1048576 (by omega) W)
    have HBELOW : Hid (∀ (S : Nat → Prop) (a : Option Addr) (l : List UInt8), BytesAt W a l → (∀ k, S k → W.heap.size ≤ k) → l ≠ [] → ∀ y, a = some y → ¬ S y.block) := by
      intro S a l hb hS hne y hy hk
      have hlen : 0 < l.length := List.length_pos_iff.2 hne
      obtain ⟨g, off, ha, hc⟩ := hb 0 hlen
      obtain rfl := Option.some.inj (hy.symm.trans ha)
      rcases Nat.lt_or_ge g W.heap.size with h' | h'
      · exact absurd (hS _ hk) (by show ¬ _ ≤ g; omega)
      · simp [World.cell?, Array.getElem?_eq_none h'] at hc
    clear hl0 hl1
    go_enter Tryd.func3, Tryd.ntmps3
    go_wp2_with (go_at_call 4; refine HNEW.out.mono ?_)
    rintro e w1 hnew
    obtain ⟨p, rfl, hr1⟩ := RunS.start (Chg.refl Nil W) hnew (by omega)
    have HR1 := Lib.hid hr1
    clear hnew hr1 HNEW
    go_wp2_with (go_at_call 5; refine (kept_any _).mono ?_)
    rintro e w2 ⟨rfl, hc2⟩
    have HM := Lib.hid (make_run (HR1.out.nil hc2))
    clear HR1 hc2
    go_wp2_with (go_at_call 6; refine HM.out.mono ?_)
    rintro e w3 ⟨rfl, hr3⟩
    have HA := Lib.hid (add_run hr3 a0 l0 cap0 (by simp; omega) (by omega) (hr3.chg.bytesAt HB0.out (fun _ _ h => h)) (HBELOW.out _ _ _ HB0.out hr3.lo))
    clear HM hr3
    go_wp2_with (go_at_call 7; refine HA.out.mono ?_)
    rintro e w4 ⟨rfl, hr4⟩
    have HS := Lib.hid (sync_run hr4)
    clear HA hr4
    go_wp2_with (go_at_call 8; refine HS.out.mono ?_)
    rintro e w5 ⟨rfl, hr5⟩
    have HA := Lib.hid (add_run hr5 a1 l1 cap1 (by simp; omega) (by omega) (hr5.chg.bytesAt HB1.out (fun _ _ h => h)) (HBELOW.out _ _ _ HB1.out hr5.lo))
    clear HS hr5
    go_wp2_with (go_at_call 7; refine HA.out.mono ?_)
    rintro e w6 ⟨rfl, hr6⟩
    have HR6 := Lib.hid hr6
    simp only [List.nil_append] at HR6
    clear HA hr6
    have hcv0 := conv_bytes (dst := 9) Tryd.underlying22 Tryd.underlying5 Tryd.underlying9 (HR6.out.chg.bytesAt HB0.out (fun _ _ h => h)) cap0
    have hcv1 := conv_bytes (dst := 9) Tryd.underlying22 Tryd.underlying5 Tryd.underlying9 (HR6.out.chg.bytesAt HB1.out (fun _ _ h => h)) cap1
    have hno : ¬ 9223372036854775807 < l0.length + l1.length := by omega
    go_wp2_with fail
    rw [cat_strs]
    obtain ⟨f, hf⟩ : ∃ f : Fl, f = ⟨l0 ++ l1, l0.length⟩ := ⟨_, rfl⟩
    have hI0 : Hid (f.safe ≤ f.bytes.length ∧ l0.length ≤ f.safe ∧ f.bytes.length ≤ 5000) := by
      subst hf
      refine ⟨?_, Nat.le_refl _, ?_⟩
      · show l0.length ≤ (l0 ++ l1).length
        rw [List.length_append]; omega
      · show (l0 ++ l1).length ≤ 5000
        rw [List.length_append]; omega
    have hb0 : (l0 ++ l1) = f.bytes := by subst hf; rfl
    rw [hb0]
    rw [← hf] at HR6
    have hpk := pickN_lt (a := x) (n := 4) (by omega)
    clear hcv0 hcv1 hno hb0 hf
    go_loopw [11, 12] (fun av iv wr => ∃ (k : Nat) (f : Fl) (Sr : Nat → Prop), k ≤ 4 ∧ iv = .int .i64 k ∧ av = .string ⟨f.bytes.toArray⟩ ∧ (f.safe ≤ f.bytes.length ∧ l0.length ≤ f.safe ∧ f.bytes.length ≤ 5000) ∧ RunS W wr p Sr (one 1048576 [97] f)) (fun _ iv _ => 5 - (intOf iv).toNat)
    case atStart => exact ⟨0, f, _, by omega, rfl, rfl, hI0.out, HR6.out⟩
    case round =>
      obtain ⟨k, f, Sr, hk, rfl, rfl, hI, hr⟩ := hrel
      have HR := Lib.hid hr
      have HI := Lib.hid hI
      clear hr hI
      by_cases hik : (k : Int) ≤ ((pickN x 4 : Nat) : Int)
      · have hi64 : wrap64 ((k : Int) + 1) = (k : Int) + 1 := by unfold wrap64; omega
        go_wp2_with (go_at_call 9; refine (pick_any x 4 _ (by omega) (by omega)).mono ?_)
        rintro e wa ⟨rfl, rfl⟩
        have HC := Lib.hid (crash_run HR.out a2 l2 cap2 (by have := HL2.out; omega) (HR.out.chg.bytesAt HB2.out (fun _ _ h => h)) (HBELOW.out _ _ _ HB2.out HR.out.lo))
        go_wp2_with (go_at_call 10; refine HC.out.mono ?_)
        rintro e wb ⟨rfl, hrb⟩
        obtain ⟨hp1, hp2, hp3, hp4⟩ := crashed_prefix HI.out.1 l2 0
        obtain ⟨g, hg⟩ : ∃ g, crashed f l2 0 = g := ⟨_, rfl⟩
        rw [hg] at hrb hp1 hp2 hp3 hp4
        obtain ⟨hi1, hi2, hi3⟩ := HI.out
        have HP2 := Lib.hid hp2
        clear hp2
        have HRD := Lib.hid (read_run hrb 1048576 (by omega) (by omega))
        have HRB := Lib.hid hrb
        clear HC hrb hg
        go_wp2_with (go_at_call 11; refine HRD.out.mono ?_)
        rintro e wc ⟨a, c, rfl, hb, hcc⟩
        have hcv := conv_bytes (dst := 9) Tryd.underlying22 Tryd.underlying5 Tryd.underlying9 hb c
        have HRC := Lib.hid (HRB.out.nil hcc)
        clear HRD HRB hb hcc
        have hex := cut_str HP2.out
        have hn1 : ¬ g.bytes.length < l0.length := by omega
        have hn2 : ¬ f.bytes.length < g.bytes.length := by omega
        have hn3 : ¬ (g.bytes.length : Int) < (l0.length : Int) := by omega
        have hn4 : ¬ (f.bytes.length : Int) < (g.bytes.length : Int) := by omega
        go_wp2_with fail
        refine ⟨⟨k + 1, g, _, by omega, by go_num, rfl, ⟨by omega, by omega, by omega⟩, HRC.out⟩, ?_⟩
        rw [show (intOf (Value.int IntKind.i64 ((k : Int) + 1))) = (k : Int) + 1 from rfl, show (intOf (Value.int IntKind.i64 (k : Int))) = (k : Int) from rfl]
        omega
      · have HCH := Lib.hid HR.out.chg
        go_wp2_with (go_at_call 9; refine (pick_any x 4 _ (by omega) (by omega)).mono ?_)
        go_ret
        exact ⟨rfl, HCH.out⟩
end Go.Proofs.YthjdkhjdgmnliaaDoor
