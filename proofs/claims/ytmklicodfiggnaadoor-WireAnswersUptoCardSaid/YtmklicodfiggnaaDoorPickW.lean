/-
  The walk of pick.
-/
import Derived.Test.YtmklicodfiggnaaDoorBoxW
namespace Go.Proofs.YtmklicodfiggnaaDoor
open Go.RowKit

/-- A number within n. -/
def pickN (a : Int) (n : Nat) : Nat := (a % 18446744073709551616 % (n : Int)).toNat
theorem pickN_lt {a : Int} {n : Nat} (h : 0 < n) : pickN a n < n := by
  unfold pickN
  have h1 : 0 ≤ a % 18446744073709551616 % (n : Int) := Int.emod_nonneg _ (by omega)
  have h2 : a % 18446744073709551616 % (n : Int) < n := Int.emod_lt_of_pos _ (by omega)
  omega
theorem pick_eq {a : Int} {n : Nat} (h : 0 < n) (hn : n ≤ 1000000) : wrap64 ((IntKind.u64.wrap a).tmod (n : Int)) = (pickN a n : Nat) := by
  rw [IntKind.wrap_u64, Int.tmod_eq_emod_of_nonneg (Int.emod_nonneg _ (by omega))]
  have h1 : 0 ≤ a % 18446744073709551616 % (n : Int) := Int.emod_nonneg _ (by omega)
  have h2 : a % 18446744073709551616 % (n : Int) < n := Int.emod_lt_of_pos _ (by omega)
  unfold pickN
  rw [Int.toNat_of_nonneg h1]
  generalize a % 18446744073709551616 % (n : Int) = x at *
  unfold wrap64
  omega

set_option maxRecDepth 100000 in
theorem pick_any (a : Int) (n : Nat) (w : World) (h0 : 0 < n) (hn : n ≤ 1000000) :
    Calls Tryd.prog 21 #[.int .i64 a, .int .i64 n] w fun e w' => e = .returned (.int .i64 (pickN a n : Nat)) ∧ w = w' := by
  have HP := Lib.hid (pick_eq (a := a) h0 hn)
  go_enter Tryd.func21, Tryd.ntmps21
  go_wp2
  go_ret
  exact ⟨by rw [← HP.out]; rfl, rfl⟩

end Go.Proofs.YtmklicodfiggnaaDoor
