/-
  api.Tell, plain.Bare and the law's 'bare' at nil and at an Errno.
-/
import Derived.Test.YtaipjojigaeejaaDoorAsW
import Derived.Test.YtaipjojigaeejaaDoorRecL
import Derived.Outline
import Derived.WalkLawsBesides
import Derived.WalkSpells
namespace Go.Proofs.YtaipjojigaeejaaDoor
open Go.RowKit Go.Extern.Stop Go.Stop Go.Extern

theorem tell_nil (w : World) : Calls Tryd.prog 18 #[.nilIface] w fun e w' => e = .returned (.int .i64 0) ∧ w = w' := by
  go_enter Tryd.func18, Tryd.ntmps18
  go_wp2
  go_ret
  exact ⟨rfl, rfl⟩
theorem tell_errno (k : Int) (w : World) (hg : Handle w) : Calls Tryd.prog 18 #[.iface 29 (.int .i64 k)] w fun e w' => e = .returned (.int .i64 k) ∧ Chg Nil w w' := by
  have hlt : 0 < w.heap.size := World.block_lt_of_cell? _ _ hg
  go_enter Tryd.func18, Tryd.ntmps18
  go_wp2_with (go_at_call 34; refine (as_hit k ⟨w.heap.size, 0, none⟩ (.int .i64 0) _ (hg.chg ((Chg.refl Nil w).alloc _) (fun h => h)) ?_ ?_).mono ?_; (simp); (simp); rintro e w' ⟨rfl, rfl⟩)
  go_ret
  refine ⟨rfl, ?_⟩
  exact (((((Chg.refl Nil w).alloc _).alloc _).alloc _).alloc _).alloc _

theorem bare_nil (w : World) : Calls Tryd.prog 19 #[.nilIface] w fun e w' => e = .returned (.tuple #[.int .i64 0, .bool true]) ∧ w = w' := by
  go_enter Tryd.func19, Tryd.ntmps19
  go_wp2_with (go_at_call 18; refine (tell_nil _).mono ?_; rintro e w' ⟨rfl, rfl⟩)
  refine wp_loop_rounds 1 ?_
  rw [rounds_succ]
  go_wp2
  go_ret2
  exact ⟨rfl, rfl⟩
theorem assert_at (k : Int) (w : World) : (Instr.typeAssert (.iface 29 (.int .i64 k)) 27 72 true).run Tryd.prog w = .ok (.tuple #[.pointer none, .bool false]) w := by kernel_rfl
theorem assert_unwrap (v : Value) (w : World) : (Instr.typeAssert (.iface 29 v) 27 74 true).run Tryd.prog w = .ok (.tuple #[.nilIface, .bool false]) w :=
  run_typeAssert_lacksB Tryd.underlying74 (by kernel_rfl) (by kernel_rfl) v 27 w

set_option maxRecDepth 100000 in
theorem bare_errno (k : Int) (w : World) (hg : Handle w) : Calls Tryd.prog 19 #[.iface 29 (.int .i64 k)] w fun e w' => e = .returned (.tuple #[.int .i64 k, .bool true]) ∧ Chg Nil w w' := by
  have ta := assert_at
  have tu := assert_unwrap
  go_enter Tryd.func19, Tryd.ntmps19
  go_wp2_with fail
  refine (tell_errno k w hg).mono ?_
  rintro e w1 ⟨rfl, hc⟩
  go_wp2_with fail
  refine wp_loop_rounds 1 ?_
  rw [rounds_succ]
  go_wp2
  go_ret2
  exact ⟨rfl, hc⟩

set_option maxRecDepth 100000 in
theorem lawBare_any (k : Nat) (w : World) (hg : Handle w) : Calls Tryd.prog 7 #[errV 29 k, .int .i64 (k : Int)] w fun e w' => e = .returned (.bool true) ∧ Chg Nil w w' := by
  by_cases h0 : k = 0
  · subst h0
    show Calls Tryd.prog 7 #[.nilIface, .int .i64 0] w _
    go_enter Tryd.func7, Tryd.ntmps7
    go_wp2_with fail
    refine (bare_nil w).mono ?_
    rintro e w1 ⟨rfl, rfl⟩
    go_wp2_with fail
    go_ret
    exact ⟨rfl, Chg.refl _ _⟩
  · have he : errV 29 k = .iface 29 (.int .i64 (k : Int)) := if_neg h0
    rw [he]
    clear he h0
    go_enter Tryd.func7, Tryd.ntmps7
    go_wp2_with fail
    refine (bare_errno k w hg).mono ?_
    rintro e w1 ⟨rfl, hc⟩
    go_wp2_with fail
    go_ret
    exact ⟨rfl, hc⟩
end Go.Proofs.YtaipjojigaeejaaDoor
