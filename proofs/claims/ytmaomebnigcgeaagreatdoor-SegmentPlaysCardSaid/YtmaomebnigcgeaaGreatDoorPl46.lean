/-
  SegmentPlays, at any base, any room and any list.
-/
import Derived.Test.YtmaomebnigcgeaaGreatDoorPl45
import Derived.Test.YtmaomebnigcgeaaGreatDoorPl27
import Derived.Test.YtmaomebnigcgeaaGreatDoorPl26
import Derived.Lib.LaidTab
import Derived.Stop.LaidErr
import Derived.Test.YtmaomebnigcgeaaGreatDoorRows
import Derived.ProofKit
import Derived.ChangeSame
import Derived.ChangeVars
import Derived.JoinedOf
import Derived.RowKit
import Derived.RowKitTokens
import Derived.LaidLaws
import Derived.LaidHandle
import Derived.Lay
import Derived.LaidMore
import Derived.Stop.Joined
import Derived.Test.YtmaomebnigcgeaaGreatDoorPl40
import Derived.Test.YtmaomebnigcgeaaGreatDoorPl29
set_option linter.unusedSimpArgs false
set_option linter.unusedVariables false
namespace Go.Proofs.YtmaomebnigcgeaaGreatDoor
open Go.RowKit Go.Maps

set_option maxHeartbeats 1000000 in
set_option maxRecDepth 100000 in
theorem segmentPlays_any (base room : Int) (xa : Option Addr) (xs : List Pt) (xc : Nat) (w : World) (hgh : Handle w) (hT : Tabs w) (hok : ∀ x ∈ xs, x.Ok w) (hxa : PtsAt w xa xs) :
    Calls Tryz.prog 3 #[.int .i64 base, .int .i64 room, .slice xa xs.length xc] w fun e w' => e = .returned (.bool true) ∧ Chg Nil w w' := by
  by_cases hl : (40 : Int) < (xs.length : Int)
  · clear hgh hT hok hxa
    go_enter Tryz.func3, Tryz.ntmps3
    go_wp2_with fail
    go_ret
    exact ⟨rfl, Chg.refl _ _⟩
  by_cases h0 : room < 0
  · clear hgh hT hok hxa
    go_enter Tryz.func3, Tryz.ntmps3
    go_wp2_with fail
    go_ret
    exact ⟨rfl, Chg.refl _ _⟩
  by_cases h1 : (1048576 : Int) < room
  · clear hgh hT hok hxa
    go_enter Tryz.func3, Tryz.ntmps3
    go_wp2_with fail
    go_ret
    exact ⟨rfl, Chg.refl _ _⟩
  obtain ⟨r, rfl⟩ : ∃ r : Nat, room = (r : Int) := ⟨room.toNat, by omega⟩
  by_cases hb : base < 0 ∨ 1099511627776 < base
  · exact segmentPlays_range base r (by omega) xa xs.length xc w (by omega) hgh hb
  · obtain ⟨bn, rfl⟩ : ∃ bn : Nat, base = (bn : Int) := ⟨base.toNat, by omega⟩
    exact segmentPlays_in bn (by omega) r (by omega) xa xs xc w (by omega) hok hxa hgh hT
end Go.Proofs.YtmaomebnigcgeaaGreatDoor

/-
  The listed variables of SegmentPlays (errors.errorType; tables): what the rows' condition gives a walk, and a world that meets it.
-/
namespace Go.Proofs.YtmaomebnigcgeaaGreatDoor
open Go.ChangeShapes Go.WideShapes Go.RowKit

abbrev seatLaid : List (String × DataW Unit) := [("math/bits.deBruijn32tab", Rows.laid_math_bits_deBruijn32tab), ("math/bits.deBruijn64tab", Rows.laid_math_bits_deBruijn64tab), ("internal/strconv.uint64pow10", Rows.laid_internal_strconv_uint64pow10), ("unicode/utf8.acceptRanges", Rows.laid_unicode_utf8_acceptRanges), ("errors.errorType", Rows.laid_errors_errorType), ("unicode/utf8.first", Rows.laid_unicode_utf8_first)]
theorem laid_et : Tryz.prog.globalNamed "errors.errorType" = some 0 := by kernel_rfl
theorem laid_rt : (Tryz.prog.cutTypes.find? (·.1 == "internal/reflectlite.rtype")).map (·.2) = some 190 := by kernel_rfl
theorem laid_size : ∃ n, Tryz.prog.types.size = n ∧ ((List.range n).filter fun t => Tryz.prog.rowNamed t [101, 114, 114, 111, 114]) = [25] := ⟨_, rfl, by kernel_rfl⟩

/-- WHAT THE CONDITION GIVES A WALK: the variable's one cell. -/
theorem handle_of_laid {W : World} (h : laidMetH Tryz.prog seatLaid W) : Handle W := by
  have h' : laidMet Tryz.prog [("math/bits.deBruijn32tab", Rows.laid_math_bits_deBruijn32tab), ("math/bits.deBruijn64tab", Rows.laid_math_bits_deBruijn64tab), ("internal/strconv.uint64pow10", Rows.laid_internal_strconv_uint64pow10), ("unicode/utf8.acceptRanges", Rows.laid_unicode_utf8_acceptRanges), ("unicode/utf8.first", Rows.laid_unicode_utf8_first)] W ∧ handlesMet Tryz.prog [("errors.errorType", Rows.laid_errors_errorType)] W := h
  obtain ⟨name, u, ty, e1, e2, e3, e4, e5⟩ := h'.2 _ (List.mem_singleton.2 rfl)
  have en : name = [101, 114, 114, 111, 114] := (Option.some.inj e1).symm
  subst en
  obtain rfl := Option.some.inj (laid_rt.symm.trans e2)
  obtain ⟨n, hn, ho⟩ := laid_size
  have hm : ty ∈ (List.range n).filter fun t => Tryz.prog.rowNamed t [101, 114, 114, 111, 114] := List.mem_filter.2 ⟨List.mem_range.2 (by rw [← hn]; exact e3), e4⟩
  rw [ho] at hm
  obtain rfl := List.mem_singleton.1 hm
  have hh : typeHandle Tryz.prog 25 = .pointer (some ⟨9, 25, none⟩) := by kernel_rfl
  rw [hh] at e5
  simpa [Handle] using World.var?_cell laid_et e5 0

abbrev seatPlain : List (String × DataW Unit) := [("math/bits.deBruijn32tab", Rows.laid_math_bits_deBruijn32tab), ("math/bits.deBruijn64tab", Rows.laid_math_bits_deBruijn64tab), ("internal/strconv.uint64pow10", Rows.laid_internal_strconv_uint64pow10), ("unicode/utf8.acceptRanges", Rows.laid_unicode_utf8_acceptRanges), ("unicode/utf8.first", Rows.laid_unicode_utf8_first)]
/-- A world with the handle's cell laid .. -/
noncomputable def handWorld (os : Os) : World :=
  let w0 := World.holding Tryz.prog os ⟨#[], #[], []⟩
  { w0 with heap := w0.heap.modify 0 fun
      | .cells _ t frozen => .cells #[.iface 190 (.agg #[.pointer (some ⟨9, 25, none⟩)])] t frozen
      | o => o }
/-- .. and the tables behind it. -/
noncomputable def laidWorld (os : Os) : World := (handWorld os).layVars Tryz.prog seatPlain
theorem laidWorld_os (os : Os) : (laidWorld os).os = os := World.layVars_os _ _ _
theorem laidWorld_met (os : Os) (args : Array Value) : laidMetH Tryz.prog seatLaid ((laidWorld os).forCall (fun _ _ => 0) ⟨#[], args, []⟩).memory := by
  have h : laidMet Tryz.prog seatPlain (laidWorld os) := laidMet_layVars (w0 := handWorld os) ["math/bits.deBruijn32tab", "math/bits.deBruijn64tab", "internal/strconv.uint64pow10", "unicode/utf8.acceptRanges", "unicode/utf8.first"] [] rfl (by kernel_rfl) (by kernel_rfl) LaidIn.none
  exact laidMetH_of_parts (h.of_heap (by simp [World.memory, World.forCall, Input.heap])) (by kernel_rfl)

theorem tabs_of_laid {W : World} (h : laidMetH Tryz.prog seatLaid W) : Tabs W := by
  have h' : laidMet Tryz.prog seatPlain W ∧ handlesMet Tryz.prog [("errors.errorType", Rows.laid_errors_errorType)] W := h
  exact ⟨Lib.tabIs_of_head (g := 3) (t := 208) (e := 121) (n := 20) (by kernel_rfl) (by kernel_rfl) Tryz.underlying208 Tryz.underlying121 (by kernel_rfl) (by kernel_rfl) h'.1.tail.tail⟩
end Go.Proofs.YtmaomebnigcgeaaGreatDoor

/-
  A torn end is no batch: plain data. Bytes whose last three at most are others have another sum.
-/
set_option linter.unusedSimpArgs false
set_option linter.unusedVariables false
namespace Go.Proofs.YtmaomebnigcgeaaGreatDoor
open Go.RowKit

theorem xor_half2 (x y : Nat) : (x ^^^ y) / 2 = (x / 2) ^^^ (y / 2) := by
  apply Nat.eq_of_testBit_eq
  intro i
  rw [← Nat.testBit_succ, Nat.testBit_xor, Nat.testBit_xor, Nat.testBit_succ, Nat.testBit_succ]
theorem xor_mod2 (x y : Nat) : (x ^^^ y) % 2 = (x % 2 + y % 2) % 2 := by
  have h := Nat.testBit_xor x y 0
  simp only [Nat.testBit_zero] at h
  have hx := Nat.mod_two_eq_zero_or_one x
  have hy := Nat.mod_two_eq_zero_or_one y
  have hz := Nat.mod_two_eq_zero_or_one (x ^^^ y)
  rcases hx with hx | hx <;> rcases hy with hy | hy <;> rcases hz with hz | hz <;> simp_all
theorem cbit_xor (x y : Nat) : cbit (x ^^^ y) = cbit x ^^^ cbit y := by
  unfold cbit
  rw [xor_half2, xor_mod2]
  have hx := Nat.mod_two_eq_zero_or_one x
  have hy := Nat.mod_two_eq_zero_or_one y
  generalize x / 2 = a
  generalize y / 2 = b
  have comm : ∀ p : Nat, (a ^^^ p) ^^^ (b ^^^ p) = a ^^^ b := fun p => by
    rw [Nat.xor_comm b p, Nat.xor_assoc, ← Nat.xor_assoc p p, Nat.xor_self, Nat.zero_xor]
  rcases hx with hx | hx <;> rcases hy with hy | hy <;> simp only [hx, hy] <;> simp
  · rw [Nat.xor_assoc]
  · rw [Nat.xor_assoc, Nat.xor_assoc, Nat.xor_comm b]
  · exact (comm _).symm
theorem cbits_xor (k : Nat) (x y : Nat) : cbits k (x ^^^ y) = cbits k x ^^^ cbits k y := by
  induction k with
  | zero => rfl
  | succ k ih => rw [cbits, ih, cbit_xor]; rfl
theorem cbit_low {d m : Nat} (hd : d < 4294967296) (hm : m ≤ 31) (h : cbit d < 2 ^ m) : d = 2 * cbit d := by
  unfold cbit at *
  by_cases h1 : d % 2 = 1
  · rw [if_pos h1] at h
    have top : (d / 2).testBit 31 = false := Nat.testBit_lt_two_pow (by omega)
    have hp : (3988292384 : Nat).testBit 31 = true := by decide
    have hx : ((d / 2) ^^^ 3988292384).testBit 31 = true := by rw [Nat.testBit_xor, top, hp]; rfl
    have hl : ((d / 2) ^^^ 3988292384).testBit 31 = false := Nat.testBit_lt_two_pow (Nat.lt_of_lt_of_le h (Nat.pow_le_pow_right (by omega) hm))
    rw [hx] at hl
    cases hl
  · rw [if_neg h1]
    omega
theorem cbits_low : ∀ (k : Nat) {d m : Nat}, d < 4294967296 → m + k ≤ 32 → cbits k d < 2 ^ m → d = 2 ^ k * cbits k d
  | 0, d, m, _, _, _ => by simp [cbits]
  | k + 1, d, m, hd, hm, h => by
    have h1 : cbits k d = 2 * cbits (k + 1) d := cbit_low (cbits_lt k hd) (by omega) h
    have h2 : cbits k d < 2 ^ (m + 1) := by rw [h1, Nat.pow_succ]; omega
    have h3 := cbits_low k hd (by omega) h2
    conv => lhs; rw [h3, h1]
    rw [Nat.pow_succ, Nat.mul_assoc]
theorem xor_zero_eq {a b : Nat} (h : a ^^^ b = 0) : a = b := by
  have : a ^^^ (a ^^^ b) = a ^^^ 0 := by rw [h]
  rw [← Nat.xor_assoc, Nat.xor_self, Nat.zero_xor, Nat.xor_zero] at this
  exact this.symm
/-- Bytes that end in the same state: the states ahead of them differ low down only. -/
theorem fold_low : ∀ (k : Nat) (x y : List UInt8), x.length = k → y.length = k → k ≤ 3 → ∀ {v u : Nat}, v < 4294967296 → u < 4294967296 → x.foldl cbyte v = y.foldl cbyte u → v ^^^ u < 2 ^ (8 * k)
  | 0, x, y, hx, hy, _, v, u, _, _, h => by
    rw [List.eq_nil_of_length_eq_zero hx, List.eq_nil_of_length_eq_zero hy] at h
    have h : v = u := h
    rw [h, Nat.xor_self]; decide
  | k + 1, [], y, hx, hy, _, v, u, _, _, h => by cases hx
  | k + 1, a :: x, [], hx, hy, _, v, u, _, _, h => by cases hy
  | k + 1, a :: x, b :: y, hx, hy, hk, v, u, hv, hu, h => by
    simp only [List.foldl_cons] at h
    have h1 := fold_low k x y (by simpa using hx) (by simpa using hy) (by omega) (cbyte_lt a hv) (cbyte_lt b hu) h
    unfold cbyte at h1
    rw [← cbits_xor] at h1
    have hab : v ^^^ a.toNat ^^^ (u ^^^ b.toNat) = (v ^^^ u) ^^^ (a.toNat ^^^ b.toNat) := by
      rw [Nat.xor_assoc, Nat.xor_assoc]
      congr 1
      rw [← Nat.xor_assoc, ← Nat.xor_assoc, Nat.xor_comm a.toNat u]
    rw [hab] at h1
    have hs : a.toNat ^^^ b.toNat < 2 ^ 8 := Nat.xor_lt_two_pow (u8_lt a) (u8_lt b)
    have hl := cbits_low 8 (Nat.xor_lt_two_pow (n := 32) (Nat.xor_lt_two_pow (n := 32) hv hu) (Nat.lt_trans hs (by decide))) (by omega) h1
    have h2 : (v ^^^ u) ^^^ (a.toNat ^^^ b.toNat) < 2 ^ (8 * (k + 1)) := by
      rw [hl, show 8 * (k + 1) = 8 + 8 * k by omega, Nat.pow_add]
      exact Nat.mul_lt_mul_of_pos_left h1 (by decide)
    have h3 := Nat.xor_lt_two_pow (n := 8 * (k + 1)) h2 (Nat.lt_of_lt_of_le hs (Nat.pow_le_pow_right (by omega) (by omega) : 2 ^ 8 ≤ 2 ^ (8 * (k + 1))))
    rwa [Nat.xor_assoc, Nat.xor_self, Nat.xor_zero] at h3
/-- Three bytes that turned are seen. -/
theorem fold_three : ∀ (x y : List UInt8), x.length = y.length → x.length ≤ 3 → ∀ {v : Nat}, v < 4294967296 → x.foldl cbyte v = y.foldl cbyte v → x = y
  | [], [], _, _, _, _, _ => rfl
  | [], b :: y, h, _, _, _, _ => by cases h
  | a :: x, [], h, _, _, _, _ => by cases h
  | a :: x, b :: y, hl, hk, v, hv, h => by
    simp only [List.foldl_cons] at h
    have hxy : x.length = y.length := by simpa using hl
    have hx2 : x.length ≤ 2 := by simpa using hk
    have h1 := fold_low x.length x y rfl hxy.symm (by omega) (cbyte_lt a hv) (cbyte_lt b hv) h
    unfold cbyte at h1
    rw [← cbits_xor] at h1
    have hab : v ^^^ a.toNat ^^^ (v ^^^ b.toNat) = a.toNat ^^^ b.toNat := by
      rw [Nat.xor_comm v, Nat.xor_assoc, ← Nat.xor_assoc v v, Nat.xor_self, Nat.zero_xor]
    rw [hab] at h1
    have hs : a.toNat ^^^ b.toNat < 2 ^ 8 := Nat.xor_lt_two_pow (u8_lt a) (u8_lt b)
    have hl8 := cbits_low 8 (Nat.lt_trans hs (by decide)) (by omega) h1
    have hz : a.toNat ^^^ b.toNat = 0 := by omega
    have he : a = b := UInt8.toNat_inj.1 (xor_zero_eq hz)
    subst he
    rw [fold_three x y hxy (by omega) (cbyte_lt a hv) h]
/-- Bytes whose last three at most are others have another sum. -/
theorem sum_tail {p x y : List UInt8} (hl : x.length = y.length) (h3 : x.length ≤ 3) (h : sumOf (p ++ x) = sumOf (p ++ y)) : x = y := by
  have h' := xor_left_inj h
  unfold crc at h'
  rw [List.foldl_append, List.foldl_append] at h'
  exact fold_three x y hl h3 (crc_lt p) h'

theorem fromB_alike {l m : List UInt8} (h : ∀ j, j < 4 → l[j]? = m[j]?) : fromB l = fromB m := by
  rw [fromB_eq, fromB_eq]
  simp only [List.getD_eq_getElem?_getD, h 0 (by omega), h 1 (by omega), h 2 (by omega), h 3 (by omega)]
theorem take_alike {l m : List UInt8} {k : Nat} (h : l.take k = m.take k) : ∀ j, j < k → l[j]? = m[j]? := by
  intro j hj
  have h1 := congrArg (fun x => x[j]?) h
  simpa [List.getElem?_take, hj] using h1
/-- Whole, its bytes say how long they are, and their sum. -/
theorem Bt.Ok.sum {b : Bt} (h : b.Ok) : fromB b.bytes = b.bytes.length ∧ sumOf (b.bytes.drop 8) = fromB (b.bytes.drop 4) := by
  obtain ⟨h0, hl, hf, hp⟩ := decErr_enc h.err
  have e : encAll b.base b.en b.rs = b.bytes := rfl
  rw [e] at h0 hl hf
  have h6 := h.nums.some
  have hL : fromB b.bytes = b.bytes.length := by omega
  refine ⟨hL, ?_⟩
  unfold decErr at h0
  rw [hL] at h0
  rw [if_neg (by omega)] at h0
  by_cases g2 : b.bytes.length < 11 ∨ 6000 < b.bytes.length
  · rw [if_pos g2] at h0; cases h0
  rw [if_neg g2, if_neg (by omega), List.take_length] at h0
  by_cases g4 : sumOf (b.bytes.drop 8) ≠ fromB (b.bytes.drop 4)
  · rw [if_pos g4] at h0; cases h0
  · exact Decidable.not_not.1 g4
theorem decErr_zero {T : List UInt8} (h : decErr T = 0) : 11 ≤ fromB T ∧ fromB T ≤ T.length ∧ sumOf ((T.take (fromB T)).drop 8) = fromB (T.drop 4) := by
  unfold decErr at h
  by_cases g1 : T.length < 8
  · rw [if_pos g1] at h; cases h
  rw [if_neg g1] at h
  by_cases g2 : fromB T < 11 ∨ 6000 < fromB T
  · rw [if_pos g2] at h; cases h
  rw [if_neg g2] at h
  by_cases g3 : T.length < fromB T
  · rw [if_pos g3] at h; cases h
  rw [if_neg g3] at h
  by_cases g4 : sumOf ((T.take (fromB T)).drop 8) ≠ fromB (T.drop 4)
  · rw [if_pos g4] at h; cases h
  exact ⟨by omega, by omega, Decidable.not_not.1 g4⟩
/-- A beginning of a batch, and three bytes at most behind it: a batch only if it is this one. -/
theorem torn_one {b : Bt} (h : b.Ok) {c : Nat} {more : List UInt8} (hm : more.length ≤ 3) (hc : c < b.bytes.length) (hd : decErr ((b.bytes.take c ++ more).take 6000) = 0) : b.bytes.length ≤ c + more.length ∧ (b.bytes.take c ++ more).take b.bytes.length = b.bytes := by
  obtain ⟨d1, d2, d3⟩ := decErr_zero hd
  obtain ⟨s1, s2⟩ := h.sum
  have hn := h.nums
  have hlen := hn.len
  obtain ⟨J, hJ⟩ : ∃ J, b.bytes.take c ++ more = J := ⟨_, rfl⟩
  have hJl : J.length = c + more.length := by rw [← hJ, List.length_append, List.length_take]; omega
  rw [hJ] at d1 d2 d3 ⊢
  rw [List.length_take] at d2
  have hc8 : 8 ≤ c := by omega
  have hsame : ∀ j, j < c → (J.take 6000)[j]? = b.bytes[j]? := by
    intro j hj
    rw [List.getElem?_take, if_pos (by omega), ← hJ, List.getElem?_append_left (by rw [List.length_take]; omega), List.getElem?_take, if_pos hj]
  have hf : fromB (J.take 6000) = b.bytes.length := by
    rw [← s1]
    exact fromB_alike fun j hj => hsame j (by omega)
  have hf4 : fromB ((J.take 6000).drop 4) = fromB (b.bytes.drop 4) := by
    refine fromB_alike fun j hj => ?_
    rw [List.getElem?_drop, List.getElem?_drop]
    exact hsame _ (by omega)
  rw [hf] at d1 d2 d3
  rw [hf4, ← s2] at d3
  have hL : b.bytes.length ≤ c + more.length := by omega
  refine ⟨hL, ?_⟩
  have e1 : (J.take 6000).take b.bytes.length = J.take b.bytes.length := by rw [List.take_take, Nat.min_eq_left hlen]
  have e2 : J.take b.bytes.length = b.bytes.take c ++ more.take (b.bytes.length - c) := by
    have hcl : (b.bytes.take c).length = c := by rw [List.length_take]; omega
    rw [← hJ, List.take_append, List.take_of_length_le (by omega), hcl]
  rw [e1, e2, List.drop_append_of_le_length (by rw [List.length_take]; omega)] at d3
  have e3 : b.bytes.drop 8 = (b.bytes.take c).drop 8 ++ b.bytes.drop c := by
    conv => lhs; rw [← List.take_append_drop c b.bytes]
    rw [List.drop_append_of_le_length (by rw [List.length_take]; omega)]
  rw [e3] at d3
  have hx := sum_tail (by rw [List.length_take, List.length_drop]; omega) (by rw [List.length_take]; omega) d3
  rw [e2, hx, List.take_append_drop]
/-- Of a file whose end was torn off, and three bytes at most put behind it, there are just the batches that are whole. -/
theorem torn_end {l : List Bt} (hok : ∀ b ∈ l, b.Ok) {cut n : Nat} {more F : List UInt8} (hm : more.length ≤ 3) (hc : cut ≤ (batBs l).length) (hn : n ≤ l.length) (hF : F = (batBs l).take cut ++ more)
    (hpre : F.take (batBs (l.take n)).length = batBs (l.take n))
    (hmax : n < l.length → ¬ F.take (batBs (l.take (n + 1))).length = batBs (l.take (n + 1))) :
    ∃ junk, F = batBs (l.take n) ++ junk ∧ (junk ≠ [] → decErr (junk.take 6000) ≠ 0) := by
  refine ⟨F.drop (batBs (l.take n)).length, ?_, fun _ hd => ?_⟩
  · conv => lhs; rw [← List.take_append_drop (batBs (l.take n)).length F, hpre]
  · obtain ⟨sz, hsz⟩ : ∃ sz, (batBs (l.take n)).length = sz := ⟨_, rfl⟩
    have hFl : F.length = cut + more.length := by rw [hF, List.length_append, List.length_take]; omega
    obtain ⟨d1, d2, d3⟩ := decErr_zero hd
    rw [List.length_take, List.length_drop, hsz] at d2
    rw [hsz] at d1
    have hcut : sz + 8 ≤ cut := by omega
    have hnl : n < l.length := by
      rcases Nat.lt_or_ge n l.length with h | h
      · exact h
      · rw [List.take_of_length_le h] at hsz
        omega
    have hmx := hmax hnl
    have hb := hok _ (List.getElem_mem hnl)
    have e : batBs l = batBs (l.take n) ++ (l[n].bytes ++ batBs (l.drop (n + 1))) := by
      have e : l = l.take n ++ l[n] :: l.drop (n + 1) := by rw [List.getElem_cons_drop, List.take_append_drop]
      conv => lhs; rw [e]
      rw [batBs_append, batBs_cons]
    have e1 : batBs (l.take (n + 1)) = batBs (l.take n) ++ l[n].bytes := by rw [List.take_succ_eq_append_getElem hnl, batBs_snoc]
    have e0 : F = batBs (l.take n) ++ ((l[n].bytes ++ batBs (l.drop (n + 1))).take (cut - sz) ++ more) := by
      rw [hF, e, List.take_append, List.take_of_length_le (by omega), hsz, List.append_assoc]
    have e2 : F.drop (batBs (l.take n)).length = (l[n].bytes ++ batBs (l.drop (n + 1))).take (cut - sz) ++ more := by rw [e0, List.drop_left' rfl]
    have e3 : F.take (batBs (l.take (n + 1))).length = batBs (l.take n) ++ ((l[n].bytes ++ batBs (l.drop (n + 1))).take (cut - sz) ++ more).take l[n].bytes.length := by
      rw [e1, List.length_append]
      conv => lhs; rw [e0]
      rw [List.take_append, List.take_of_length_le (by omega)]
      congr 2
      omega
    rw [e3, e1] at hmx
    rw [e2] at hd
    rcases Nat.lt_or_ge (cut - sz) l[n].bytes.length with h | h
    · have e5 : (l[n].bytes ++ batBs (l.drop (n + 1))).take (cut - sz) = l[n].bytes.take (cut - sz) := List.take_append_of_le_length (by omega)
      rw [e5] at hd hmx
      exact hmx (by rw [(torn_one hb hm h hd).2])
    · refine hmx ?_
      rw [List.take_append_of_le_length (by rw [List.length_take, List.length_append]; omega), List.take_take, Nat.min_eq_left h, List.take_left' rfl]

/-- How many batches are whole. -/
theorem whole_count (P : Nat → Prop) [DecidablePred P] (L : Nat) (h0 : P 0) : ∃ n, n ≤ L ∧ (∀ k, k ≤ n → P k) ∧ (n < L → ¬ P (n + 1)) := by
  have key : ∀ m k, k + m = L → (∀ j, j ≤ k → P j) → ∃ n, n ≤ L ∧ (∀ k, k ≤ n → P k) ∧ (n < L → ¬ P (n + 1)) := by
    intro m
    induction m with
    | zero => intro k hk hp; exact ⟨k, by omega, hp, fun h => by omega⟩
    | succ m ih =>
      intro k hk hp
      by_cases hn : P (k + 1)
      · exact ih (k + 1) (by omega) (fun j hj => by rcases Nat.lt_or_ge j (k + 1) with h | h; exact hp j (by omega); rw [show j = k + 1 by omega]; exact hn)
      · exact ⟨k, by omega, hp, fun _ => hn⟩
  exact key L 0 (by omega) (fun j hj => by rw [show j = 0 by omega]; exact h0)
theorem One.cut {d : Dk} {room : Nat} {nm : Nm} {bs : List UInt8} (h : One d room nm bs) {k : Nat} (hk : k ≤ bs.length) : ∃ d', d.cut nm (k : Nat) = (0, d') ∧ One d' room nm (bs.take k) := by
  obtain ⟨sf, hf⟩ := h.find
  obtain ⟨sf2, hfs⟩ := h.fs
  unfold Dk.cut Dk.at
  rw [if_neg (by rw [does_true h.left]; simp), hf, step_same h.left]
  simp only
  rw [if_neg (by omega)]
  refine ⟨_, rfl, ⟨min sf k, ?_⟩, h.room, h.left⟩
  show (d.turn nm ⟨bs.take ((k : Int)).toNat, min sf ((k : Int)).toNat⟩).fs = _
  rw [Int.toNat_natCast]
  unfold Dk.turn
  rw [hfs]
  simp
theorem readGo_all : ∀ (l : List Bt) (f : Bool) (m : Int), ((batBs l).length : Int) ≤ m → m ≤ 9223372036854775807 → readGo f m l = l
  | [], _, _, _, _ => rfl
  | b :: l, f, m, h, hm => by
    rw [batBs_cons, List.length_append] at h
    unfold readGo
    rw [if_neg (by intro hh; have := hh.2; omega)]
    have e : wrap64 (m - (b.bytes.length : Nat)) = m - (b.bytes.length : Nat) := by unfold wrap64; omega
    first
      | rw [e, readGo_all l false _ (by omega) (by omega)]
      | rw [readGo_all l false _ (by omega) (by omega)]
theorem readL_all {base : Int} {l : List Bt} (hok : ∀ b ∈ l, b.Ok) (hup : rising base l) {m : Int} (h : ((batBs l).length : Int) ≤ m) (hm : m ≤ 9223372036854775807) : readL l base m = l := by
  have e : l.dropWhile (fun b => decide (b.en ≤ base)) = l := by
    cases l with
    | nil => rfl
    | cons b l =>
      have h1 := (hok b (List.mem_cons_self ..)).nums.lt
      have h2 := hup.1
      rw [List.dropWhile_cons_of_neg (by simp; omega)]
  unfold readL
  rw [e]
  exact readGo_all l true m h hm
theorem read_whole {d : Dk} {room : Nat} {nm : Nm} {bs : List UInt8} (h : One d room nm bs) (hl : bs.length ≤ 1048576) : d.read nm 0 1048576 = bs := by
  obtain ⟨sf, hf⟩ := h.find
  unfold Dk.read
  rw [hf]
  show readOf bs 0 1048576 = bs
  unfold readOf
  rw [if_neg (by omega)]
  simp only [Int.toNat_zero, List.drop_zero]
  exact List.take_of_length_le (by omega)
theorem batBs_at (l : List Bt) (n : Nat) : (batBs l).take (batBs (l.take n)).length = batBs (l.take n) := by
  conv => lhs; rw [← List.take_append_drop n l, batBs_append]
  rw [List.take_left' (by rw [List.take_append_drop])]
theorem batBs_take_le (l : List Bt) (n : Nat) : (batBs (l.take n)).length ≤ (batBs l).length := by
  conv => rhs; rw [← List.take_append_drop n l, batBs_append, List.length_append]
  omega
theorem batBs_lim : ∀ {l : List Bt}, (∀ b ∈ l, b.Ok) → (batBs l).length ≤ 6000 * l.length
  | [], _ => Nat.zero_le _
  | b :: l, h => by
    have h1 := (h b (List.mem_cons_self ..)).nums.len
    have h2 := batBs_lim (fun b hb => h b (List.mem_cons_of_mem _ hb))
    rw [batBs_cons, List.length_append, List.length_cons]
    omega
end Go.Proofs.YtmaomebnigcgeaaGreatDoor
