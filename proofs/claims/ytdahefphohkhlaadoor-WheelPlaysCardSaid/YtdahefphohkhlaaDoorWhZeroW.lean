/-
  A new wheel.
-/
import Derived.Test.YtdahefphohkhlaaDoorWhM
set_option linter.unusedSimpArgs false
set_option linter.unusedVariables false
namespace Go.Proofs.YtdahefphohkhlaaDoor
open Go.RowKit Go.Maps

def zcell (j : Nat) : Value := if j = 0 then .int .i64 0 else if j < 450 then .slice none 0 0 else if j = 450 then .map none else .int .i64 0
def zcells : Array Value := ((List.range 452).map zcell).toArray
set_option maxRecDepth 100000 in
theorem zeroWheel (w : World) : (zeroValue 28).run Tryd.prog w = .ok (.agg zcells) w := by
  have h : (Tryd.prog.info? 28).map (fun i => i.zero) = some (some (.agg zcells)) := by kernel_rfl
  cases hi : Tryd.prog.info? 28 with
  | none => rw [hi] at h; cases h
  | some i =>
    rw [hi] at h
    simp only [Option.map_some, Option.some.injEq] at h
    simp [zeroValue, typeInfo, hi, h]
theorem zcells_get {j : Nat} (h : j < 452) : zcells[j]? = some (zcell j) := by
  unfold zcells
  rw [List.getElem?_toArray, List.getElem?_map, List.getElem?_range h]
  rfl
theorem Wl.new (w : World) : Wl (w.alloc (.cells zcells 28)) w.heap.size ⟨0, fun _ => []⟩ [] 0 (fun _ => .slice none 0 0) none := by
  have hg : (w.alloc (.cells zcells 28)).heap[w.heap.size]? = some (.cells zcells 28 (0, 0)) := heap_alloc_new w _
  have hc : ∀ j, j < 452 → (w.alloc (.cells zcells 28)).cell? ⟨w.heap.size, j, none⟩ = some (zcell j) := fun j hj => by
    rw [cell_of_row _ w.heap.size j zcells _ (0, 0) hg]
    exact zcells_get hj
  refine ⟨hc 0 (by omega), fun j hj => ?_, hc 450 (by omega), hc 451 (by omega), fun j => by simp only [World.frozen?, hg]; simp, fun j hj => OwnTm.nil _, fun j k b _ _ _ hb => by simp [Value.ownBlock] at hb, fun j hj => by simp [Value.ownBlock], IdsAt.none _⟩
  rw [hc (1 + j) (by omega)]
  unfold zcell
  rw [if_neg (by omega), if_pos (by omega)]
theorem inv_new : InvK 7 ⟨0, fun _ => []⟩ := ⟨fun t (h : t ∈ []) => absurd h List.not_mem_nil, fun k i _ _ t (h : t ∈ []) => absurd h List.not_mem_nil, fun j _ t (h : t ∈ []) => absurd h List.not_mem_nil, by decide⟩
theorem all_new : allT (fun _ => []) 449 = [] := by
  unfold allT
  simp
end Go.Proofs.YtdahefphohkhlaaDoor
