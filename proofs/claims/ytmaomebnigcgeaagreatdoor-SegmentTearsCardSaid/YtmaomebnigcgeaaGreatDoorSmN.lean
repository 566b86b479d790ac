/-
  A segment in memory: Latest.
-/
import Derived.Test.YtmaomebnigcgeaaGreatDoorSmM
set_option linter.unusedSimpArgs false
set_option linter.unusedVariables false
namespace Go.Proofs.YtmaomebnigcgeaaGreatDoor
open Go.RowKit

theorem max_if (u q : Int) : (if u < q then q else u) = max u q := by split <;> omega
theorem meas_two {n i : Nat} (h : i < n) : n - (RowKit.intOf (Value.int .i64 ((i : Int) + 1))).toNat < n - (RowKit.intOf (Value.int .i64 (i : Int))).toNat := by
  show n - ((i : Int) + 1).toNat < n - (i : Int).toNat
  omega

set_option maxHeartbeats 1000000 in
set_option maxRecDepth 20000 in
theorem slatest_any {w : World} {s p : Nat} {v : Value} {g : Sg} (h : Sm w s p v g) (hn : g.pls.length ≤ 1000000) :
    Calls Tryz.prog 21 #[.pointer (some ⟨s, 0, none⟩)] w fun e w' => e = .returned (.int .i64 (latestOf g.pls)) ∧ Chg Nil w w' := by
  have c3 := h.c.cell (j := 3) rfl
  obtain ⟨a, c, hv, _, _, hcell⟩ := h.o.val
  subst hv
  have HCELL := Lib.hid hcell
  clear h hcell
  generalize g.pls = l at *
  go_enter Tryz.func21, Tryz.ntmps21
  go_wp2_with fail
  clear c3
  go_loopw [11, 3] (fun ii nn wr => ∃ (wq : World) (i : Nat), wq = wr ∧ i ≤ l.length ∧ ii = .int .i64 i ∧ nn = .int .i64 (latestOf (l.take i)) ∧ Chg Nil w wr) (fun ii _ _ => l.length - (RowKit.intOf ii).toNat)
  case atStart => exact ⟨_, 0, rfl, by omega, rfl, rfl, Chg.refl _ _⟩
  case round =>
    obtain ⟨wr, i, rfl, hi, rfl, rfl, hc⟩ := hrel
    have HC := Lib.hid hc
    clear hc
    by_cases hil : i < l.length
    · have hii : (i : Int) < (l.length : Int) := by omega
      have hi64 : wrap64 ((i : Int) + 1) = (i : Int) + 1 := by unfold wrap64; omega
      obtain ⟨b, rfl, hz⟩ := HCELL.out i hil
      have HNX := Lib.hid (latest_snoc l hil)
      obtain ⟨u, hu⟩ : ∃ u, latestOf (l.take i) = u := ⟨_, rfl⟩
      rw [hu] at HNX
      rw [hu]
      obtain ⟨q, hq⟩ : ∃ q, q = l[i] := ⟨_, rfl⟩
      rw [← hq] at hz HNX
      clear hu hq
      obtain ⟨qa, qs, qb, qe, qt⟩ := q
      have z0 := HC.out.cell (hz 0 _ rfl) (fun h => h)
      have z1 := HC.out.cell (hz 1 _ rfl) (fun h => h)
      have z2 := HC.out.cell (hz 2 _ rfl) (fun h => h)
      have z3 := HC.out.cell (hz 3 _ rfl) (fun h => h)
      have z4 := HC.out.cell (hz 4 _ rfl) (fun h => h)
      rw [Nat.add_zero] at z0
      clear hz
      have hbx := Box.new wr [.int .i64 (qa : Nat), .int .i64 (qs : Nat), .int .i64 qb, .int .i64 qe, .int .i64 qt] 94
      have HC2 := Lib.hid (HC.out.trans ((Chg.refl Nil wr).alloc (.cells #[.int .i64 (qa : Nat), .int .i64 (qs : Nat), .int .i64 qb, .int .i64 qe, .int .i64 qt] 94)) (fun _ h => h.elim))
      go_upto_region 5 with fail
      clear z0 z1 z2 z3 z4
      have hbx : Box (wr.alloc (.cells #[.int .i64 (qa : Nat), .int .i64 (qs : Nat), .int .i64 qb, .int .i64 qe, .int .i64 qt] 94)) wr.heap.size [.int .i64 (qa : Nat), .int .i64 (qs : Nat), .int .i64 qb, .int .i64 qe, .int .i64 qt] 94 := hbx
      generalize wr.alloc (.cells #[.int .i64 (qa : Nat), .int .i64 (qs : Nat), .int .i64 qb, .int .i64 qe, .int .i64 qt] 94) = w2 at *
      generalize wr.heap.size = g2 at *
      have y1 := hbx.cell (j := 4) rfl
      clear hbx
      go_wp2_with fail
      go_roundw
      case rel => exact ⟨_, i + 1, rfl, by omega, by go_num, by rw [HNX.out]; exact congrArg _ (max_if u qt), HC2.out⟩
      case measure => exact meas_two hil
    · have hii : ¬ (i : Int) < (l.length : Int) := by omega
      obtain rfl : i = l.length := by omega
      rw [List.take_length]
      go_wp2_with fail
      go_ret
      exact ⟨rfl, HC.out⟩
end Go.Proofs.YtmaomebnigcgeaaGreatDoor
