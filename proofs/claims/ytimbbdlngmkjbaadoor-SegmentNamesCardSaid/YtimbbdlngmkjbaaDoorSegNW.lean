/-
  The walks of the two packages' names of segments' files.
-/
import Derived.Test.YtimbbdlngmkjbaaDoorShelf
import Derived.Test.YtimbbdlngmkjbaaDoorSegL
import Derived.Test.YtimbbdlngmkjbaaDoorBoxG
import Derived.Test.YtimbbdlngmkjbaaDoorMono
import Derived.WalkKit
import Derived.Tactics
import Derived.Tactics2
import Derived.KernelRfl
import Derived.RowKit
import Derived.Lib.Walk
import Derived.Lib.Hide
import Derived.Lib.AppendIntMem
set_option linter.unusedSimpArgs false
set_option linter.unusedVariables false
namespace Go.Proofs.YtimbbdlngmkjbaaDoor
open Go.RowKit Go.Shelf Go.Lib

theorem list_size (s : ByteArray) : s.data.toList.length = s.size := by rw [Array.length_toList]; rfl

theorem ba_eq {a b : ByteArray} (h : a.data.toList = b.data.toList) : a = b := by
  cases a; cases b
  congr 1
  exact Array.toList_inj.1 h
theorem ba_app (a b : ByteArray) : (a ++ b).data.toList = a.data.toList ++ b.data.toList := by
  simp

/-- What the listed variables read as. -/
structure Tabs (w : World) : Prop where
  pow : TabIs Tryd.prog w "internal/strconv.uint64pow10" .u64 pow10Tab
  syn : ∃ tp p, w.var? Tryd.prog "strconv.ErrSyntax" = some #[.iface tp p]
  rng : ∃ tp p, w.var? Tryd.prog "strconv.ErrRange" = some #[.iface tp p]

theorem var_chg {w w' : World} (h : Chg Nil w w') {n : String} {cs : Array Value} (hv : w.var? Tryd.prog n = some cs) : w'.var? Tryd.prog n = some cs := by
  unfold World.var? at *
  cases hg : Tryd.prog.globalNamed n with
  | none => simp [hg] at hv
  | some g =>
    simp only [hg, Option.bind_some] at hv ⊢
    have hlt : g < w.heap.size := by
      rcases Nat.lt_or_ge g w.heap.size with h' | h'
      · exact h'
      · rw [Array.getElem?_eq_none h'] at hv; simp at hv
    rw [h.block g hlt (fun h => h)]
    exact hv

theorem Tabs.chg {w w' : World} (h : Tabs w) (k : Chg Nil w w') : Tabs w' := by
  obtain ⟨h1, ⟨tp, p, h2⟩, ⟨tp', p', h3⟩⟩ := h
  exact ⟨var_chg k h1, ⟨tp, p, var_chg k h2⟩, ⟨tp', p', var_chg k h3⟩⟩

theorem itoa_any {w : World} (hT : Tabs w) (n : Nat) (hn : n ≤ 1099511627776) :
    Calls Tryd.prog 8 #[.int .i64 n] w fun e w' => e = .returned (.string ⟨(decDigits n).toArray⟩) ∧ Chg Nil w w' := by
  have h := Any.strconv_Itoa Tryd.laysM171 (n : Int) (by omega) (by omega) w hT.pow
  change Calls Tryd.prog 8 _ _ _ at h
  refine h.mono fun e w' ⟨h1, k, os, h2⟩ => ⟨?_, ?_⟩
  · rw [h1, itoa_nonneg]
  · rw [h2]; exact Chg.of_below (below_grow _ w (Nat.le_refl _) k os) _

theorem repeat_any (c : Nat) (hc : c ≤ 10) (w : World) :
    Calls Tryd.prog 9 #[.string ⟨#[48]⟩, .int .i64 c] w fun e w' => e = .returned (.string ⟨(List.replicate c 48).toArray⟩) ∧ Chg Nil w w' := by
  have hrep : ∀ c, repeatL [48] c = List.replicate c 48 := by
    intro c
    induction c with
    | zero => rfl
    | succ c ih => rw [repeatL, ih]; rfl
  rcases Nat.lt_or_ge c 2 with h | h
  · rcases Nat.lt_or_ge c 1 with h1 | h1
    · obtain rfl : c = 0 := by omega
      exact (Any.strings_Repeat_zero Tryd.lays105 ⟨#[48]⟩ w).mono fun e w' ⟨h1, h2⟩ => ⟨h1, by rw [h2]; exact Chg.refl _ _⟩
    · obtain rfl : c = 1 := by omega
      exact (Any.strings_Repeat_one Tryd.lays105 ⟨#[48]⟩ w).mono fun e w' ⟨h1, h2⟩ => ⟨h1, by rw [h2]; exact Chg.refl _ _⟩
  · have hm := Any.strings_Repeat_main Tryd.lays105 Tryd.Builder_Extra_105 ⟨#[48]⟩ c w h (by omega) (by have : (ByteArray.mk #[48]).size = 1 := rfl; rw [this]; omega) (by decide)
    refine hm.mono fun e w' ⟨h1, h2⟩ => ⟨?_, Chg.of_below h2 _⟩
    rw [h1]
    have : (ByteArray.mk #[48]).data.toList = [48] := rfl
    rw [this, hrep]

set_option maxHeartbeats 2000000 in
theorem name_any {w : World} (hT : Tabs w) (d : ByteArray) (n : Nat) (hd : d.size ≤ 1000) (hn : n ≤ 1099511627776) :
    Calls Tryd.prog 4 #[.string d, .int .i64 n] w fun e w' => e = .returned (.string ⟨(segName d.data.toList n).toArray⟩) ∧ Chg Nil w w' := by
  have HI := Lib.hid (itoa_any hT n hn)
  have HR := Lib.hid (fun w => repeat_any (10 - (decDigits n).length) (by omega) w)
  have HL : Hid ((decDigits n).length ≤ 13) := dec_len 12 n (by omega)
  obtain ⟨z, hz⟩ : ∃ z, z = decDigits n := ⟨_, rfl⟩
  rw [← hz] at HI HR HL
  have HZ := Lib.hid hz
  clear hz hT
  go_enter Tryd.func4, Tryd.ntmps4
  go_wp2_with fail
  refine HI.out.mono ?_
  rintro e w1 ⟨rfl, hc1⟩
  have hmx : max 0 (wrap64 (10 - (z.length : Int))) = ((10 - z.length : Nat) : Int) := by
    have := HL.out
    unfold wrap64; omega
  have hz1 : (ByteArray.mk z.toArray).size = z.length := by show z.toArray.size = _; simp
  go_wp2_with fail
  refine (HR.out w1).mono ?_
  rintro e w2 ⟨rfl, hc2⟩
  have hz13 := HL.out
  go_wp2_with fail
  go_ret
  refine ⟨congrArg (fun b => Ending.returned (Value.string b)) (ba_eq ?_), hc1.trans hc2 (fun _ h => h.elim)⟩
  rw [ba_app, ba_app, ba_app, ba_app]
  simp only [segName, pad, zeros, ← HZ.out, List.append_assoc]
  rfl

/-- Numbers with blanks between: one number. -/
theorem strsT : SliceT Tryd.prog 48 9 1 16 :=
  ⟨Tryd.underlying48, by
    have h : (Tryd.prog.info? 9).map (fun i => (i.zero, i.size, i.bytes)) = some (some (.string ⟨#[]⟩), 1, 16) := by kernel_rfl
    obtain ⟨i, hi, hz, h1, h2⟩ := info_parts h
    exact ⟨i, _, hi, hz, rfl, h1, h2⟩⟩

theorem own_one {w : World} {e : TypeId} {v x : Value} (h : w.ownsRow 0 e 1 v 1 [x]) : ∃ q c', v = .slice (some ⟨q, 0, none⟩) 1 c' ∧ w.cell? ⟨q, 0, none⟩ = some x := by
  rcases h.2 with ⟨rfl, hn⟩ | ⟨g, cap, cur, rfl, _, hg, hnc, hcm, hcs, htake⟩
  · cases hn
  · refine ⟨g, cap, rfl, ?_⟩
    rw [cell_of_row w g 0 cur _ _ hg]
    have := congrArg (fun l => l[0]?) htake
    simpa using this

set_option maxHeartbeats 2000000 in
theorem told_any {w : World} (hT : Tabs w) (b c n : Nat) (hn : n ≤ 1099511627776) (hb : w.cell? ⟨b, 0, none⟩ = some (.int .i64 n)) :
    Calls Tryd.prog 10 #[.slice (some ⟨b, 0, none⟩) 1 c] w fun e w' => e = .returned (.string ⟨(decDigits n).toArray⟩) ∧ Chg Nil w w' := by
  have HI := Lib.hid (itoa_any hT n hn)
  obtain ⟨z, hz⟩ : ∃ z, decDigits n = z := ⟨_, rfl⟩
  have HT := Lib.hid hT
  have HZ := Lib.hid hz
  rw [hz]
  clear hz hT HI
  go_enter Tryd.func10, Tryd.ntmps10
  go_wp2_with fail
  go_loopw [8, 3] (fun ii vv wr => ∃ wq, wq = wr ∧ Chg Nil w wr ∧ ((ii = .int .i64 0 ∧ vv = .slice none 0 0) ∨ (ii = .int .i64 1 ∧ ∃ q c', vv = .slice (some ⟨q, 0, none⟩) 1 c' ∧ wr.cell? ⟨q, 0, none⟩ = some (.string ⟨z.toArray⟩)))) (fun ii _ _ => 1 - (RowKit.intOf ii).toNat)
  case atStart => exact ⟨_, rfl, Chg.refl _ _, .inl ⟨rfl, rfl⟩⟩
  case round =>
    obtain ⟨wr, rfl, hch, ⟨rfl, rfl⟩ | ⟨rfl, q, c', rfl, hq⟩⟩ := hrel
    · have hb' := hch.cell hb (fun h => h)
      have HI2 := Lib.hid (itoa_any (HT.out.chg hch) n hn)
      rw [HZ.out] at HI2
      have HCH := Lib.hid hch
      clear hch hb
      go_wp2_with fail
      refine HI2.out.mono ?_
      rintro e w1 ⟨rfl, hc1⟩
      have HC1 := Lib.hid (HCH.out.trans hc1 (fun _ h => h.elim))
      go_wp2_with (at_builtin; go_must (refine wpList_append_grew rfl (.tmp 12) (.tmp 15) 48 48 rfl strsT _ Tryd.underlying48 (by intro _; simp) _ _ _ rfl (World.ownsRow_nil _ 0 _ 1) _ 1 [.string ⟨z.toArray⟩] rfl (Source.box (Box.new _ [.string ⟨z.toArray⟩] _) rfl (by intro v hv; simp at hv; subst hv; rfl)) (by unfold maxLen; omega) (by omega) ?_); intro v2 w8 hown2 hg2 _)
      obtain ⟨q, c', rfl, hq⟩ := own_one hown2
      have hal := (Chg.refl Nil w1).alloc (.cells #[.string ⟨z.toArray⟩] 9)
      exact ⟨⟨_, rfl, HC1.out.trans (hal.trans hg2.chg (fun i h => by cases h)) (fun _ h => h.elim), .inr ⟨rfl, q, c', rfl, hq⟩⟩, by simp [RowKit.intOf]⟩
    · have HJ := Lib.hid (Any.strings_Join_one Tryd.lays156 Tryd.Builder_Extra_156 q 0 c' ⟨z.toArray⟩ ⟨#[32]⟩ wr hq)
      clear hb hq
      go_wp2_with (go_at_call 26; refine HJ.out.mono ?_; rintro e w' ⟨rfl, rfl⟩)
      go_ret
      exact ⟨rfl, hch⟩

set_option maxHeartbeats 2000000 in
theorem refName_any {w : World} (hT : Tabs w) (d : ByteArray) (n : Nat) (hd : d.size ≤ 1000) (hn : n ≤ 1099511627776) :
    Calls Tryd.prog 5 #[.string d, .int .i64 n] w fun e w' => e = .returned (.string ⟨(segName d.data.toList n).toArray⟩) ∧ Chg Nil w w' := by
  have hal := (Chg.refl Nil w).alloc (.cells #[.int .i64 n] 3)
  have HTO := Lib.hid (told_any (hT.chg hal) w.heap.size 1 n hn ((Box.new w [.int .i64 n] 3).cell (j := 0) rfl))
  have HAL := Lib.hid hal
  have HL : Hid ((decDigits n).length ≤ 13) := dec_len 12 n (by omega)
  obtain ⟨z, hz⟩ : ∃ z, decDigits n = z := ⟨_, rfl⟩
  rw [hz] at HTO HL
  have HZ := Lib.hid hz
  clear hz hT hal
  go_enter Tryd.func5, Tryd.ntmps5
  go_wp2_with (go_at_call 10; refine HTO.out.mono ?_; rintro e w1 ⟨rfl, hc1⟩)
  go_loopw [5] (fun vv wr => ∃ (wq : World) (k : Nat) (s : ByteArray), wq = wr ∧ s.size = k + z.length ∧ (k = 0 ∨ k + z.length ≤ 10) ∧ vv = .string s ∧ Hid (s.data.toList = List.replicate k 48 ++ z) ∧ wr = w1) (fun vv _ => 10 - (match vv with | .string s => s.size | _ => 0))
  case atStart => exact ⟨_, 0, _, rfl, by rw [← list_size]; simp, .inl rfl, rfl, rfl, rfl⟩
  case round =>
    obtain ⟨wr, k, s, rfl, hs, hk, rfl, HS, rfl⟩ := hrel
    have hz13 := HL.out
    by_cases hlt : s.size < 10
    · have hlti : (s.size : Int) < 10 := by omega
      go_wp2_with fail
      go_roundw
      case rel => exact ⟨_, k + 1, _, rfl, by rw [← list_size, ba_app, List.length_append, list_size s, hs]; simp; omega, by omega, rfl, by unfold Hid; rw [ba_app, HS.out, List.replicate_succ]; rfl, trivial⟩
      case measure =>
        have : (ByteArray.mk #[48] ++ s).size = 1 + s.size := by rw [← list_size, ba_app, List.length_append, list_size s]; rfl
        simp only [this]
        omega
    · have hlti : ¬ (s.size : Int) < 10 := by omega
      have HLT := Lib.hid hlti
      go_wp2_with fail
      go_ret
      refine ⟨congrArg (fun b => Ending.returned (Value.string b)) (ba_eq ?_), HAL.out.trans hc1 (fun _ h => h.elim)⟩
      rw [ba_app, ba_app, ba_app, HS.out]
      have hkz : k = 10 - z.length := by omega
      simp only [segName, pad, zeros, HZ.out, List.append_assoc, hkz]
      rfl
end Go.Proofs.YtimbbdlngmkjbaaDoor
