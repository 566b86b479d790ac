/-
  An append of bytes inside a drawn region (Chain's obligations). Over any program.
-/
import Derived.Test.YtmaomebnigcgeaaGreatDoorApp
import Derived.Test.YtmaomebnigcgeaaGreatDoorChain
namespace Go.Proofs.YtmaomebnigcgeaaGreatDoor.Ch
open Go.RowKit

theorem if_append {P : Program} {o : Oper} {a : Act} {w : World} {N : Value → World → Prop} {y : Nat → Option Bool} (hgd : o.guard = none) (s x : Operand) (t u : TypeId)
    (ho : o.op = .call { callee := .builtin .append, args := #[s, x], argTypes := #[t, u] })
    {e : TypeId} (hT : SliceT P t e 1 1) (d : TypeDesc) (hu : P.underlying u = some d) (hd : ∀ k, d ≠ .int k)
    (v : Value) (l : List UInt8) (hs : a.eval s = v) (hown : OwnB e w v l)
    (xv : Value) (m : List UInt8) (hx : a.eval x = xv) (hsrc : Source P w 1 xv m.length (m.map bval))
    (hb : l.length + m.length ≤ 140737488355328)
    (h : ∀ v' w', OwnB e w' v' (l ++ m) → Grew w w' v v' → N v' w') : if Region.wanted o y = true then gives P N ((execOp a.eval o).run P w) else N undef w := by
  have hw : Region.wanted o y = true := by unfold Region.wanted; rw [hgd]
  rw [if_pos hw]
  obtain ⟨ht, i, z, hi, hz, hzs, h1, h2⟩ := hT
  obtain ⟨v', w', hr, g2, g3, _⟩ := run_append_grew (P := P) w t u o.type e d i z ht hu hd hi hz (by rw [hzs, h1]) v l.length (l.map bval) (by rw [h1]; exact hown) xv m.length (m.map bval) (by rw [h1]; exact hsrc) (by unfold maxLen; omega) (by rw [h2]; omega)
  unfold execOp
  simp only [ho, resolve, invoke, builtin, Sem.run_bind, Sem.run_pure, Result.andThen_ok, List.map_toArray, List.map_cons, List.map_nil, hs, hx, hr]
  refine h v' w' ?_ g3
  unfold OwnB
  rw [List.length_append, List.map_append, ← h1]
  exact g2
end Go.Proofs.YtmaomebnigcgeaaGreatDoor.Ch
