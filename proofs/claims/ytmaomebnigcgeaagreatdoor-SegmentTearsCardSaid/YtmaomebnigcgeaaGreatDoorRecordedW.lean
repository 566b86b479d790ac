/-
  Encode and Decode, whatever comes in; the walk of 'recorded'.
-/
import Derived.Test.YtmaomebnigcgeaaGreatDoorEncW
import Derived.Test.YtmaomebnigcgeaaGreatDoorDecW
import Derived.Test.YtmaomebnigcgeaaGreatDoorSameW
import Derived.Test.YtmaomebnigcgeaaGreatDoorBitL
import Derived.Lib.SlBytesConst
namespace Go.Proofs.YtmaomebnigcgeaaGreatDoor
open Go.RowKit

theorem encErr_checked {base en : Int} {rs : List Rec} (h : checkB base en rs ≠ 0) : encErr base en rs = checkB base en rs := by unfold encErr; rw [if_pos h]

theorem encode_any (base en : Int) (a : Option Addr) (rs : List Rec) (cap : Nat) (w : World) (hb : -9223372036854775808 ≤ base ∧ base ≤ 9223372036854775807) (he : -9223372036854775808 ≤ en ∧ en ≤ 9223372036854775807) (hl : rs.length ≤ maxLen) (hok : ∀ r ∈ rs, Rec.Ok r) (hc : RecsAt w a rs) :
    Calls Tryz.prog 46 #[.agg #[.int .i64 base, .int .i64 en, .slice a rs.length cap]] w (EncPost w base en rs) := by
  by_cases h0 : checkB base en rs = 0
  · exact encode_ok base en a rs cap w hb he hl hok hc h0
  · refine (encode_bad base en a rs cap w hb he hl hok hc h0).mono ?_
    rintro e w' ⟨he, hch⟩
    refine ⟨hch, .inl ⟨?_, ?_⟩⟩
    · rw [encErr_checked h0]; exact h0
    · rw [encErr_checked h0]; exact he

theorem decode_any (a : Option Addr) (l : List UInt8) (cap : Nat) (w : World) (hcap : l.length ≤ cap) (hl : cap ≤ maxLen) (hb : BytesAt w a l) :
    Calls Tryz.prog 38 #[.slice a l.length cap] w (DecPost w l) := by
  by_cases h8 : l.length < 8
  · exact decode_short a l cap w h8
  · by_cases hs : fromB l < 11 ∨ 6000 < fromB l ∨ l.length < fromB l
    · exact decode_size a l cap w h8 (Nat.le_trans hcap hl) hb hs
    · exact decode_long a l cap w hcap hl hb hs

theorem OwnB.room {e : TypeId} {w : World} {v : Value} {l : List UInt8} (h : OwnB e w v l) : ∃ a cap, v = .slice a l.length cap ∧ BytesAt w a l ∧ l.length ≤ cap ∧ cap ≤ maxLen := by
  obtain ⟨a, cap, hv, hb, _⟩ := h.val
  rcases h.2 with ⟨hn, hz⟩ | ⟨g, cap', cur, hv', _, _, hle, hm, _⟩
  · rw [hn] at hv
    simp only [Value.slice.injEq] at hv
    refine ⟨none, 0, by rw [hn, ← hv.2.1], fun i hi => by omega, by omega, Nat.zero_le _⟩
  · exact ⟨_, _, hv', by rw [hv'] at hv; simp only [Value.slice.injEq] at hv; rw [hv.1]; exact hb, hle, hm⟩

/-- What Encode writes is read again. -/
theorem decErr_enc {base en : Int} {rs : List Rec} (h : encErr base en rs = 0) : decErr (encAll base en rs) = 0 ∧ (encAll base en rs).length = 8 + (encBody base en rs).length ∧ fromB (encAll base en rs) = 8 + (encBody base en rs).length ∧
    parse (((encAll base en rs).take (fromB (encAll base en rs))).drop 8) = ⟨base.toNat, (en - base).toNat, rs, ([], false)⟩ := by
  have hc : checkB base en rs = 0 := by
    unfold encErr at h
    by_cases hc : checkB base en rs = 0
    · exact hc
    · rw [if_pos hc] at h; exact absurd h hc
  have h6 : 8 + (encBody base en rs).length ≤ 6000 := by
    unfold encErr at h
    rw [if_neg (by simpa using hc)] at h
    by_cases h6 : 6000 < 8 + (encBody base en rs).length
    · rw [if_pos h6] at h; cases h
    · omega
  have h3 : 3 ≤ (encBody base en rs).length := by
    unfold encBody encHead
    have a1 := put_length_pos base.toNat
    have a2 := put_length_pos (en - base).toNat
    have a3 := put_length_pos rs.length
    simp only [List.length_append]
    omega
  have hlen : (encAll base en rs).length = 8 + (encBody base en rs).length := by unfold encAll; simp [four]; omega
  have hf : fromB (encAll base en rs) = 8 + (encBody base en rs).length := by
    unfold encAll; rw [List.append_assoc]; exact fromB_four _ _ (by omega)
  have hs : fromB ((encAll base en rs).drop 4) = sumOf (encBody base en rs) := by
    unfold encAll
    rw [List.append_assoc, List.drop_left' (by simp [four])]
    exact fromB_four _ _ (sumOf_lt _)
  have hb : (encAll base en rs).drop 8 = encBody base en rs := by
    unfold encAll
    exact List.drop_left' (by simp [four])
  have ht : (encAll base en rs).take (fromB (encAll base en rs)) = encAll base en rs := List.take_of_length_le (by omega)
  obtain ⟨c0, c1, c2, _⟩ := checkB_zero hc
  refine ⟨?_, hlen, hf, by rw [ht, hb, parse_enc hc]⟩
  unfold decErr
  rw [ht, hb, hs, if_neg (by omega), if_neg (by omega), if_neg (by omega), if_neg (by simp), parse_enc hc, if_pos]
  have e1 : ((base.toNat : Nat) : Int) = base := by omega
  have e2 : (((en - base).toNat : Nat) : Int) = en - base := by omega
  simp only [Parsed.good, e1, e2, Bool.not_false, List.isEmpty_nil, Bool.true_and, decide_eq_true_eq]
  rw [show base + (en - base) = en by omega]
  exact hc

theorem recsAt_one {w : World} {g : Nat} {r : Rec} {t : TypeId} (h : Box w g r.cells t) : RecsAt w (some ⟨g, 0, none⟩) [r] := by
  intro i hi
  have hi0 : i = 0 := by simpa using hi
  subst hi0
  exact ⟨g, 0, rfl, fun j u hj => by have := h.cell hj; rw [show 0 + 0 * 6 + j = j by omega]; exact this⟩

theorem bytesAt_row {w : World} {g : Nat} {l : List UInt8} {t : TypeId} {fr : Nat × Nat} (h : w.heap[g]? = some (.cells (l.map bval).toArray t fr)) : BytesAt w (some ⟨g, 0, none⟩) l := by
  intro i hi
  refine ⟨g, 0, rfl, ?_⟩
  rw [Nat.zero_add, cell_of_row w g i (l.map bval).toArray t fr h]
  simp [hi]

theorem rec0_ok : Rec.Ok ⟨5, 7, false, ⟨#[]⟩, false, ⟨#[118]⟩⟩ := ⟨by decide, by decide, Nat.zero_le _, show 1 ≤ maxLen by unfold maxLen; omega⟩
theorem sum0 : sumOf [49, 50, 51, 52, 53, 54, 55, 56, 57] = 3421780262 := by decide +kernel


end Go.Proofs.YtmaomebnigcgeaaGreatDoor
