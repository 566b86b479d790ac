/-
  api.Tell, plain.Bare and the law's 'bare' at nil and at an Errno.
-/
import Derived.Test.YthjdkhjdgmnliaaGreatDoorAsW
import Derived.Test.YthjdkhjdgmnliaaGreatDoorDkD
import Derived.Outline
import Derived.WalkLawsBesides
import Derived.WalkSpells
namespace Go.Proofs.YthjdkhjdgmnliaaGreatDoor
open Go.RowKit Go.Extern.Stop Go.Stop Go.Extern

theorem tell_nil (w : World) : Calls Tryz.prog 38 #[.nilIface] w fun e w' => e = .returned (.int .i64 0) ∧ w = w' := by
  go_enter Tryz.func38, Tryz.ntmps38
  go_wp2
  go_ret
  exact ⟨rfl, rfl⟩
theorem tell_errno (k : Int) (w : World) (hg : Handle w) : Calls Tryz.prog 38 #[.iface 29 (.int .i64 k)] w fun e w' => e = .returned (.int .i64 k) ∧ Chg Nil w w' := by
  have hlt : 0 < w.heap.size := World.block_lt_of_cell? _ _ hg
  go_enter Tryz.func38, Tryz.ntmps38
  go_wp2_with (go_at_call 46; refine (as_hit k ⟨w.heap.size, 0, none⟩ (.int .i64 0) _ (hg.chg ((Chg.refl Nil w).alloc _) (fun h => h)) ?_ ?_).mono ?_; (simp); (simp); rintro e w' ⟨rfl, rfl⟩)
  go_ret
  refine ⟨rfl, ?_⟩
  exact (((((Chg.refl Nil w).alloc _).alloc _).alloc _).alloc _).alloc _

theorem bare_nil (w : World) : Calls Tryz.prog 25 #[.nilIface] w fun e w' => e = .returned (.tuple #[.int .i64 0, .bool true]) ∧ w = w' := by
  go_enter Tryz.func25, Tryz.ntmps25
  go_wp2_with (go_at_call 38; refine (tell_nil _).mono ?_; rintro e w' ⟨rfl, rfl⟩)
  refine wp_loop_rounds 1 ?_
  rw [rounds_succ]
  go_wp2
  go_ret2
  exact ⟨rfl, rfl⟩
theorem assert_at (k : Int) (w : World) : (Instr.typeAssert (.iface 29 (.int .i64 k)) 25 77 true).run Tryz.prog w = .ok (.tuple #[.pointer none, .bool false]) w := by kernel_rfl
theorem assert_unwrap (v : Value) (w : World) : (Instr.typeAssert (.iface 29 v) 25 79 true).run Tryz.prog w = .ok (.tuple #[.nilIface, .bool false]) w :=
  run_typeAssert_lacksB Tryz.underlying79 (by kernel_rfl) (by kernel_rfl) v 25 w

set_option maxRecDepth 100000 in
theorem bare_errno (k : Int) (w : World) (hg : Handle w) : Calls Tryz.prog 25 #[.iface 29 (.int .i64 k)] w fun e w' => e = .returned (.tuple #[.int .i64 k, .bool true]) ∧ Chg Nil w w' := by
  have ta := assert_at
  have tu := assert_unwrap
  go_enter Tryz.func25, Tryz.ntmps25
  go_wp2_with fail
  refine (tell_errno k w hg).mono ?_
  rintro e w1 ⟨rfl, hc⟩
  go_wp2_with fail
  refine wp_loop_rounds 1 ?_
  rw [rounds_succ]
  go_wp2
  go_ret2
  exact ⟨rfl, hc⟩

set_option maxRecDepth 100000 in
theorem lawBare_any (k : Nat) (w : World) (hg : Handle w) : Calls Tryz.prog 5 #[errV k, .int .i64 (k : Int)] w fun e w' => e = .returned (.bool true) ∧ Chg Nil w w' := by
  by_cases h0 : k = 0
  · subst h0
    show Calls Tryz.prog 5 #[.nilIface, .int .i64 0] w _
    go_enter Tryz.func5, Tryz.ntmps5
    go_wp2_with fail
    refine (bare_nil w).mono ?_
    rintro e w1 ⟨rfl, rfl⟩
    go_wp2_with fail
    go_ret
    exact ⟨rfl, Chg.refl _ _⟩
  · have he : errV k = .iface 29 (.int .i64 (k : Int)) := if_neg h0
    rw [he]
    clear he h0
    go_enter Tryz.func5, Tryz.ntmps5
    go_wp2_with fail
    refine (bare_errno k w hg).mono ?_
    rintro e w1 ⟨rfl, hc⟩
    go_wp2_with fail
    go_ret
    exact ⟨rfl, hc⟩
end Go.Proofs.YthjdkhjdgmnliaaGreatDoor
