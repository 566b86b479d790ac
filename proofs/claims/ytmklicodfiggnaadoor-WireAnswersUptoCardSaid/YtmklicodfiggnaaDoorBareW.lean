/-
  api.Tell, plain.Bare and the law's 'bare' at nil and at an Errno.
-/
import Derived.Test.YtmklicodfiggnaaDoorAsW
import Derived.Test.YtmklicodfiggnaaDoorRecL
import Derived.Outline
import Derived.WalkLawsBesides
import Derived.WalkSpells
namespace Go.Proofs.YtmklicodfiggnaaDoor
open Go.RowKit Go.Extern.Stop Go.Stop Go.Extern

theorem tell_nil (w : World) : Calls Tryd.prog 22 #[.nilIface] w fun e w' => e = .returned (.int .i64 0) ∧ w = w' := by
  go_enter Tryd.func22, Tryd.ntmps22
  go_wp2
  go_ret
  exact ⟨rfl, rfl⟩
theorem tell_errno (k : Int) (w : World) (hg : Handle w) : Calls Tryd.prog 22 #[.iface 26 (.int .i64 k)] w fun e w' => e = .returned (.int .i64 k) ∧ Chg Nil w w' := by
  have hlt : 0 < w.heap.size := World.block_lt_of_cell? _ _ hg
  go_enter Tryd.func22, Tryd.ntmps22
  go_wp2_with (go_at_call 47; refine (as_hit k ⟨w.heap.size, 0, none⟩ (.int .i64 0) _ (hg.chg ((Chg.refl Nil w).alloc _) (fun h => h)) ?_ ?_).mono ?_; (simp); (simp); rintro e w' ⟨rfl, rfl⟩)
  go_ret
  refine ⟨rfl, ?_⟩
  exact (((((Chg.refl Nil w).alloc _).alloc _).alloc _).alloc _).alloc _

theorem bare_nil (w : World) : Calls Tryd.prog 31 #[.nilIface] w fun e w' => e = .returned (.tuple #[.int .i64 0, .bool true]) ∧ w = w' := by
  go_enter Tryd.func31, Tryd.ntmps31
  go_wp2_with (go_at_call 22; refine (tell_nil _).mono ?_; rintro e w' ⟨rfl, rfl⟩)
  refine wp_loop_rounds 1 ?_
  rw [rounds_succ]
  go_wp2
  go_ret2
  exact ⟨rfl, rfl⟩
theorem assert_at (k : Int) (w : World) : (Instr.typeAssert (.iface 26 (.int .i64 k)) 30 101 true).run Tryd.prog w = .ok (.tuple #[.pointer none, .bool false]) w := by kernel_rfl
theorem assert_unwrap (v : Value) (w : World) : (Instr.typeAssert (.iface 26 v) 30 103 true).run Tryd.prog w = .ok (.tuple #[.nilIface, .bool false]) w :=
  run_typeAssert_lacksB Tryd.underlying103 (by kernel_rfl) (by kernel_rfl) v 30 w

set_option maxRecDepth 100000 in
theorem bare_errno (k : Int) (w : World) (hg : Handle w) : Calls Tryd.prog 31 #[.iface 26 (.int .i64 k)] w fun e w' => e = .returned (.tuple #[.int .i64 k, .bool true]) ∧ Chg Nil w w' := by
  have ta := assert_at
  have tu := assert_unwrap
  go_enter Tryd.func31, Tryd.ntmps31
  go_wp2_with fail
  refine (tell_errno k w hg).mono ?_
  rintro e w1 ⟨rfl, hc⟩
  go_wp2_with fail
  refine wp_loop_rounds 1 ?_
  rw [rounds_succ]
  go_wp2
  go_ret2
  exact ⟨rfl, hc⟩

set_option maxRecDepth 100000 in
theorem lawBare_any (k : Nat) (w : World) (hg : Handle w) : Calls Tryd.prog 11 #[errV 26 k, .int .i64 (k : Int)] w fun e w' => e = .returned (.bool true) ∧ Chg Nil w w' := by
  by_cases h0 : k = 0
  · subst h0
    show Calls Tryd.prog 11 #[.nilIface, .int .i64 0] w _
    go_enter Tryd.func11, Tryd.ntmps11
    go_wp2_with fail
    refine (bare_nil w).mono ?_
    rintro e w1 ⟨rfl, rfl⟩
    go_wp2_with fail
    go_ret
    exact ⟨rfl, Chg.refl _ _⟩
  · have he : errV 26 k = .iface 26 (.int .i64 (k : Int)) := if_neg h0
    rw [he]
    clear he h0
    go_enter Tryd.func11, Tryd.ntmps11
    go_wp2_with fail
    refine (bare_errno k w hg).mono ?_
    rintro e w1 ⟨rfl, hc⟩
    go_wp2_with fail
    go_ret
    exact ⟨rfl, hc⟩
end Go.Proofs.YtmklicodfiggnaaDoor
