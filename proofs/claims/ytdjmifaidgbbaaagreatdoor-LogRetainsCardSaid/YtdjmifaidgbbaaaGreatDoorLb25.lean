/-
  errors.As at an Errno and at nil; api.Tell, plain.Bare, and the law's 'bare' at them (after the guide's worked example of errors.As at a concrete target).
-/
import Derived.Test.YtdjmifaidgbbaaaGreatDoorLb01
import Derived.Test.YtdjmifaidgbbaaaGreatDoorProg
import Derived.WalkKit
import Derived.LaidEql
import Derived.Stop.Asserts
import Derived.RowKitTokens
import Derived.Test.YtdjmifaidgbbaaaGreatDoorLb05
import Derived.Outline
import Derived.WalkLawsBesides
import Derived.WalkSpells
import Derived.Test.YtdjmifaidgbbaaaGreatDoorLb23
import Derived.Test.YtdjmifaidgbbaaaGreatDoorLb06
namespace Go.Proofs.YtdjmifaidgbbaaaGreatDoor
open Go.RowKit Go.Extern.Stop Go.Stop Go.Extern

/-- What errors.errorType holds. -/
def Handle (w : World) : Prop := w.cell? ⟨0, 0, none⟩ = some (.iface 236 (.agg #[.pointer (some ⟨9, 25, none⟩)]))
theorem Handle.chg {S : Nat → Prop} {w w' : World} (h : Handle w) (hc : Chg S w w') (hn : ¬ S 0) : Handle w' := hc.cell h hn

theorem as_valueOfP (t : Addr) (w : World) : (ReflectliteValue.unpack (.iface 175 (.pointer (some t)))).run Tryz.prog w
    = .ok (.agg #[.pointer (some ⟨9, 175, none⟩), .pointer (some ⟨w.heap.size, 0, none⟩), .int .u64 150]) (w.alloc (.cells #[.pointer (some t)] 175)) := by kernel_rfl
theorem as_typeP (a : Addr) (w : World) : (ReflectliteValue.methodAny (ReflectliteValue.valueError "reflectlite.Value.Type" 0) (fun t _ _ _ => ReflectliteType.toType t) #[.agg #[.pointer (some ⟨9, 175, none⟩), .pointer (some a), .int .u64 150]]).run Tryz.prog w
    = .ok (.iface 236 (.agg #[.pointer (some ⟨9, 175, none⟩)])) w := by kernel_rfl
theorem as_methodKind (h : Value) (w : World) : (Go.method 428 236 (.agg #[h]) "Kind").run Tryz.prog w = .ok (230, h) w := by kernel_rfl
theorem as_kindP (w : World) : ((ReflectliteType.abiMethod fun t => (fun a : Nat => Value.int IntKind.u8 (a : Int)) <$> Rtype.kind t) #[.pointer (some ⟨9, 175, none⟩)]).run Tryz.prog w = .ok (.int .u8 22) w := by kernel_rfl
theorem as_kindE (w : World) : ((ReflectliteType.abiMethod fun t => (fun a : Nat => Value.int IntKind.u8 (a : Int)) <$> Rtype.kind t) #[.pointer (some ⟨9, 65, none⟩)]).run Tryz.prog w = .ok (.int .u8 2) w := by kernel_rfl
theorem as_rlm (z : Sem Value) (f : TypeId → Addr → Nat → Nat → Sem Value) (v : Value) :
    ReflectliteValue.method z f #[v] = (do match ← ReflectliteValue.parts v with | none => z | some (t, a, fl) => f t a fl (fl % 32)) := rfl
theorem as_partsP (a : Addr) (w : World) : (ReflectliteValue.parts (.agg #[.pointer (some ⟨9, 175, none⟩), .pointer (some a), .int .u64 150])).run Tryz.prog w = .ok (some (175, a, 150)) w := by kernel_rfl
theorem as_isNilP (a p : Addr) (W : World) (ha : W.cell? a = some (.pointer (some p))) :
    (ReflectliteValue.method (ReflectliteValue.valueError "reflectlite.Value.IsNil" 0) ReflectliteValue.isNil #[.agg #[.pointer (some ⟨9, 175, none⟩), .pointer (some a), .int .u64 150]]).run Tryz.prog W = .ok (.bool false) W := by
  rw [as_rlm]
  simp only [Sem.run_bind, as_partsP, Result.andThen]
  simp [ReflectliteValue.isNil, loadVar, isAgg, underlying, Tryz.underlying175, ha, Result.andThen]
theorem as_methodElem (h : Value) (w : World) : (Go.method 428 236 (.agg #[h]) "Elem").run Tryz.prog w = .ok (246, .agg #[h]) w := by kernel_rfl
theorem as_methodImplements (h : Value) (w : World) : (Go.method 428 236 (.agg #[h]) "Implements").run Tryz.prog w = .ok (247, .agg #[h]) w := by kernel_rfl
theorem as_methodAssignableTo (h : Value) (w : World) : (Go.method 428 236 (.agg #[h]) "AssignableTo").run Tryz.prog w = .ok (244, .agg #[h]) w := by kernel_rfl
theorem as_elemP (w : World) : (ReflectliteType.method ReflectliteType.elem #[.agg #[.pointer (some ⟨9, 175, none⟩)]]).run Tryz.prog w = .ok (.iface 236 (.agg #[.pointer (some ⟨9, 65, none⟩)])) w := by kernel_rfl
theorem as_implementsE (w : World) : (ReflectliteType.relation "Implements" ReflectliteType.implements_ #[.agg #[.pointer (some ⟨9, 65, none⟩)], .iface 236 (.agg #[.pointer (some ⟨9, 25, none⟩)])]).run Tryz.prog w = .ok (.bool true) w := by kernel_rfl
theorem as_typeOfE (v : Value) (w : World) : (ReflectliteType.typeOf #[.iface 65 v]).run Tryz.prog w = .ok (.iface 236 (.agg #[.pointer (some ⟨9, 65, none⟩)])) w := by kernel_rfl
theorem as_assignableE (w : World) : (ReflectliteType.relation "AssignableTo" ReflectliteType.assignableTo #[.agg #[.pointer (some ⟨9, 65, none⟩)], .iface 236 (.agg #[.pointer (some ⟨9, 65, none⟩)])]).run Tryz.prog w = .ok (.bool true) w := by kernel_rfl
theorem as_valueOfE (k : Int) (w : World) : (ReflectliteValue.unpack (.iface 65 (.int .i64 k))).run Tryz.prog w
    = .ok (.agg #[.pointer (some ⟨9, 65, none⟩), .pointer (some ⟨w.heap.size, 0, none⟩), .int .u64 130]) (w.alloc (.cells #[.int .i64 k] 65)) := by kernel_rfl
theorem as_elemOfP (w : World) : (Rtype.elem? 175).run Tryz.prog w = .ok (some 65) w := by kernel_rfl
theorem as_mkE (p : Addr) (w : World) : (ReflectliteValue.mk 65 p ReflectliteValue.flagAddr).run Tryz.prog w = .ok (.agg #[.pointer (some ⟨9, 65, none⟩), .pointer (some p), .int .u64 386]) w := by kernel_rfl
theorem as_elemVP (a p : Addr) (W : World) (ha : W.cell? a = some (.pointer (some p))) :
    (ReflectliteValue.method (ReflectliteValue.valueError "reflectlite.Value.Elem" 0) ReflectliteValue.elem #[.agg #[.pointer (some ⟨9, 175, none⟩), .pointer (some a), .int .u64 150]]).run Tryz.prog W
      = .ok (.agg #[.pointer (some ⟨9, 65, none⟩), .pointer (some p), .int .u64 386]) W := by
  rw [as_rlm]
  simp only [Sem.run_bind, as_partsP, Result.andThen]
  simp [ReflectliteValue.elem, loadVar, isAgg, underlying, Tryz.underlying175, ha, Result.andThen, as_elemOfP, as_mkE]
theorem as_rls (v x : Value) : ReflectliteValue.set #[v, x] = (do
    let (some (dst, a, fl), some (src, b, _)) := (← ReflectliteValue.parts v, ← ReflectliteValue.parts x)
      | unsupported (.noEntry "extern/(internal/reflectlite.Value).Set.zeroValue")
    if fl / ReflectliteValue.flagAddr % 2 == 0 then unsupported (.noEntry "extern/(internal/reflectlite.Value).Set.unaddressable")
    let val ← loadVar src b
    if ← Rtype.directlyAssignable dst src then storeVar dst a val
    else if ← Rtype.implements dst src then
      if (← Rtype.kind src) == 20 then
        match val with
        | .nilIface => unsupported (.noEntry "extern/reflectlite: a nil value of one interface type handed on as a value of another")
        | _ => storeVar dst a val
      else storeVar dst a (.iface src val)
    else panicString ("reflectlite.Set: value of type " ++ (← Rtype.spelt src) ++ " is not assignable to type " ++ (← Rtype.spelt dst))
    pure (.tuple #[])) := rfl
theorem as_partsEa (a : Addr) (w : World) : (ReflectliteValue.parts (.agg #[.pointer (some ⟨9, 65, none⟩), .pointer (some a), .int .u64 386])).run Tryz.prog w = .ok (some (65, a, 386)) w := by kernel_rfl
theorem as_partsE (a : Addr) (w : World) : (ReflectliteValue.parts (.agg #[.pointer (some ⟨9, 65, none⟩), .pointer (some a), .int .u64 130])).run Tryz.prog w = .ok (some (65, a, 130)) w := by kernel_rfl
theorem as_directE (w : World) : (Rtype.directlyAssignable 65 65).run Tryz.prog w = .ok true w := by kernel_rfl
theorem as_setE (ta b : Addr) (k : Int) (old : Value) (W : World) (hb : W.cell? b = some (.int .i64 k)) (ht : W.cell? ta = some old) (hf : W.frozen? ta = false) :
    (ReflectliteValue.set #[.agg #[.pointer (some ⟨9, 65, none⟩), .pointer (some ta), .int .u64 386], .agg #[.pointer (some ⟨9, 65, none⟩), .pointer (some b), .int .u64 130]]).run Tryz.prog W
      = .ok (.tuple #[]) (W.setCell ta (.int .i64 k)) := by
  rw [as_rls]
  simp only [Sem.run_bind, as_partsEa, as_partsE, Result.andThen]
  simp [ReflectliteValue.flagAddr, loadVar, isAgg, underlying, Tryz.underlying65, hb, Result.andThen, as_directE, storeVar, Value.cells, storeCells, Addr.add]
  rw [run_store Tryz.prog W ta _ _ (by rfl)]
  simp [ht, hf]

set_option maxHeartbeats 4000000 in
set_option maxRecDepth 100000 in
theorem as_hit (k : Int) (t : Addr) (old : Value) (w : World) (hg : Handle w) (ht0 : w.cell? t = some old) (hf0 : w.frozen? t = false) :
    Calls Tryz.prog 109 #[.iface 65 (.int .i64 k), .iface 175 (.pointer (some t))] w fun ev w' => ev = .returned (.bool true) ∧ w' = ((((w.alloc (.cells #[.pointer (some t)] 175)).alloc (.cells #[.pointer (some ⟨9, 175, none⟩), .pointer (some ⟨w.heap.size, 0, none⟩), .int .u64 150] 199)).alloc (.cells #[.pointer (some ⟨9, 175, none⟩), .pointer (some ⟨w.heap.size, 0, none⟩), .int .u64 150] 199)).alloc (.cells #[.int .i64 k] 65)).setCell t (.int .i64 k) := by
  unfold Handle at hg
  have h6 := @run_callFunc_extern Tryz.prog 133 _ (fun args => ReflectliteValue.unpack (args.getD 0 (.tuple #[]))) Tryz.func133 (by kernel_rfl) (by kernel_rfl) (by kernel_rfl) (by kernel_rfl)
  have h7 := @run_callFunc_extern Tryz.prog 134 _ (ReflectliteValue.methodAny (ReflectliteValue.valueError "reflectlite.Value.Type" 0) (fun t _ _ _ => ReflectliteType.toType t)) Tryz.func134 (by kernel_rfl) (by kernel_rfl) (by kernel_rfl) (by kernel_rfl)
  have h8 := @run_callFunc_extern Tryz.prog 135 _ (ReflectliteValue.method (ReflectliteValue.valueError "reflectlite.Value.IsNil" 0) ReflectliteValue.isNil) Tryz.func135 (by kernel_rfl) (by kernel_rfl) (by kernel_rfl) (by kernel_rfl)
  have h27 := @run_callFunc_extern Tryz.prog 230 _ (ReflectliteType.abiMethod fun t => do pure (.int .u8 (← Rtype.kind t))) Tryz.func230 (by kernel_rfl) (by kernel_rfl) (by kernel_rfl) (by kernel_rfl)
  have h37 := @run_callFunc_extern Tryz.prog 246 _ (ReflectliteType.method ReflectliteType.elem) Tryz.func246 (by kernel_rfl) (by kernel_rfl) (by kernel_rfl) (by kernel_rfl)
  have h38 := @run_callFunc_extern Tryz.prog 247 _ (ReflectliteType.relation "Implements" ReflectliteType.implements_) Tryz.func247 (by kernel_rfl) (by kernel_rfl) (by kernel_rfl) (by kernel_rfl)
  have h10 := @run_callFunc_extern Tryz.prog 163 _ ReflectliteType.typeOf Tryz.func163 (by kernel_rfl) (by kernel_rfl) (by kernel_rfl) (by kernel_rfl)
  have h35 := @run_callFunc_extern Tryz.prog 244 _ (ReflectliteType.relation "AssignableTo" ReflectliteType.assignableTo) Tryz.func244 (by kernel_rfl) (by kernel_rfl) (by kernel_rfl) (by kernel_rfl)
  have h11 := @run_callFunc_extern Tryz.prog 164 _ (ReflectliteValue.method (ReflectliteValue.valueError "reflectlite.Value.Elem" 0) ReflectliteValue.elem) Tryz.func164 (by kernel_rfl) (by kernel_rfl) (by kernel_rfl) (by kernel_rfl)
  have h12 := @run_callFunc_extern Tryz.prog 165 _ ReflectliteValue.set Tryz.func165 (by kernel_rfl) (by kernel_rfl) (by kernel_rfl) (by kernel_rfl)
  have tO := as_typeOfE
  have mA := as_methodAssignableTo
  have aE := as_assignableE
  have vE := as_valueOfE
  have f6 := as_valueOfP
  have f7 := as_typeP
  have mK := as_methodKind
  have mE := as_methodElem
  have mI := as_methodImplements
  have kP := as_kindP
  have kE := as_kindE
  have eP := as_elemP
  have iE := as_implementsE
  have n8 := as_isNilP ⟨w.heap.size, 0, none⟩ t ((w.alloc (.cells #[.pointer (some t)] 175)).alloc (.cells #[.pointer (some ⟨9, 175, none⟩), .pointer (some ⟨w.heap.size, 0, none⟩), .int .u64 150] 199)) (by simp)
  have hlt : 0 < w.heap.size := World.block_lt_of_cell? _ _ hg
  have hg2 : ((w.alloc (.cells #[.pointer (some t)] 175)).alloc (.cells #[.pointer (some ⟨9, 175, none⟩), .pointer (some ⟨w.heap.size, 0, none⟩), .int .u64 150] 199)).cell? ⟨0, 0, none⟩ = some (.iface 236 (.agg #[.pointer (some ⟨9, 25, none⟩)])) := by
    rw [World.cell?_alloc_lt _ _ ⟨0, 0, none⟩ (by rw [World.size_alloc]; exact Nat.lt_succ_of_lt hlt), World.cell?_alloc_lt _ _ ⟨0, 0, none⟩ hlt]; exact hg
  have htl : t.block < w.heap.size := by
    rcases Nat.lt_or_ge t.block w.heap.size with h | h
    · exact h
    · simp [World.cell?, Array.getElem?_eq_none h] at ht0
  have el := as_elemVP ⟨w.heap.size, 0, none⟩ t (((w.alloc (.cells #[.pointer (some t)] 175)).alloc (.cells #[.pointer (some ⟨9, 175, none⟩), .pointer (some ⟨w.heap.size, 0, none⟩), .int .u64 150] 199)).alloc (.cells #[.pointer (some ⟨9, 175, none⟩), .pointer (some ⟨w.heap.size, 0, none⟩), .int .u64 150] 199)) (by rw [World.cell?_alloc_lt _ _ ⟨w.heap.size, 0, none⟩ (by simp; omega)]; simp)
  have st := as_setE t ⟨w.heap.size + 1 + 1 + 1, 0, none⟩ k old ((((w.alloc (.cells #[.pointer (some t)] 175)).alloc (.cells #[.pointer (some ⟨9, 175, none⟩), .pointer (some ⟨w.heap.size, 0, none⟩), .int .u64 150] 199)).alloc (.cells #[.pointer (some ⟨9, 175, none⟩), .pointer (some ⟨w.heap.size, 0, none⟩), .int .u64 150] 199)).alloc (.cells #[.int .i64 k] 65))
    (by rw [World.cell?_alloc_at _ _ _ _ (by simp)]; rfl)
    (by rw [World.cell?_alloc_lt _ _ t (by simp; omega), World.cell?_alloc_lt _ _ t (by simp; omega), World.cell?_alloc_lt _ _ t (by simp; omega), World.cell?_alloc_lt _ _ t htl]; exact ht0)
    (by rw [World.frozen?_alloc_old _ _ t (by simp; omega), World.frozen?_alloc_old _ _ t (by simp; omega), World.frozen?_alloc_old _ _ t (by simp; omega), World.frozen?_alloc_old _ _ t (Nat.ne_of_lt htl)]; exact hf0)
  go_enter Tryz.func109, Tryz.ntmps109
  go_wp2
  refine wp_loop_rounds 1 ?_
  rw [rounds_succ]
  go_wp2
  go_ret
  exact ⟨rfl, rfl⟩
end Go.Proofs.YtdjmifaidgbbaaaGreatDoor

/-
  api.Tell, plain.Bare and the law's 'bare' at nil and at an Errno.
-/
namespace Go.Proofs.YtdjmifaidgbbaaaGreatDoor
open Go.RowKit Go.Extern.Stop Go.Stop Go.Extern

theorem tell_nil (w : World) : Calls Tryz.prog 72 #[.nilIface] w fun e w' => e = .returned (.int .i64 0) ∧ w = w' := by
  go_enter Tryz.func72, Tryz.ntmps72
  go_wp2
  go_ret
  exact ⟨rfl, rfl⟩
theorem tell_errno (k : Int) (w : World) (hg : Handle w) : Calls Tryz.prog 72 #[.iface 65 (.int .i64 k)] w fun e w' => e = .returned (.int .i64 k) ∧ Chg Nil w w' := by
  have hlt : 0 < w.heap.size := World.block_lt_of_cell? _ _ hg
  go_enter Tryz.func72, Tryz.ntmps72
  go_wp2_with (go_at_call 109; refine (as_hit k ⟨w.heap.size, 0, none⟩ (.int .i64 0) _ (hg.chg ((Chg.refl Nil w).alloc _) (fun h => h)) ?_ ?_).mono ?_; (simp); (simp); rintro e w' ⟨rfl, rfl⟩)
  go_ret
  refine ⟨rfl, ?_⟩
  exact (((((Chg.refl Nil w).alloc _).alloc _).alloc _).alloc _).alloc _

theorem bare_nil (w : World) : Calls Tryz.prog 73 #[.nilIface] w fun e w' => e = .returned (.tuple #[.int .i64 0, .bool true]) ∧ w = w' := by
  go_enter Tryz.func73, Tryz.ntmps73
  go_wp2_with (go_at_call 72; refine (tell_nil _).mono ?_; rintro e w' ⟨rfl, rfl⟩)
  refine wp_loop_rounds 1 ?_
  rw [rounds_succ]
  go_wp2
  go_ret2
  exact ⟨rfl, rfl⟩
theorem assert_at (k : Int) (w : World) : (Instr.typeAssert (.iface 65 (.int .i64 k)) 25 176 true).run Tryz.prog w = .ok (.tuple #[.pointer none, .bool false]) w := by kernel_rfl
theorem assert_unwrap (v : Value) (w : World) : (Instr.typeAssert (.iface 65 v) 25 178 true).run Tryz.prog w = .ok (.tuple #[.nilIface, .bool false]) w :=
  run_typeAssert_lacksB Tryz.underlying178 (by kernel_rfl) (by kernel_rfl) v 25 w

set_option maxRecDepth 100000 in
theorem bare_errno (k : Int) (w : World) (hg : Handle w) : Calls Tryz.prog 73 #[.iface 65 (.int .i64 k)] w fun e w' => e = .returned (.tuple #[.int .i64 k, .bool true]) ∧ Chg Nil w w' := by
  have ta := assert_at
  have tu := assert_unwrap
  go_enter Tryz.func73, Tryz.ntmps73
  go_wp2_with fail
  refine (tell_errno k w hg).mono ?_
  rintro e w1 ⟨rfl, hc⟩
  go_wp2_with fail
  refine wp_loop_rounds 1 ?_
  rw [rounds_succ]
  go_wp2
  go_ret2
  exact ⟨rfl, hc⟩

set_option maxRecDepth 100000 in
theorem lawBare_any (k : Nat) (w : World) (hg : Handle w) : Calls Tryz.prog 27 #[errV 65 k, .int .i64 (k : Int)] w fun e w' => e = .returned (.bool true) ∧ Chg Nil w w' := by
  by_cases h0 : k = 0
  · subst h0
    show Calls Tryz.prog 27 #[.nilIface, .int .i64 0] w _
    go_enter Tryz.func27, Tryz.ntmps27
    go_wp2_with fail
    refine (bare_nil w).mono ?_
    rintro e w1 ⟨rfl, rfl⟩
    go_wp2_with fail
    go_ret
    exact ⟨rfl, Chg.refl _ _⟩
  · have he : errV 65 k = .iface 65 (.int .i64 (k : Int)) := if_neg h0
    rw [he]
    clear he h0
    go_enter Tryz.func27, Tryz.ntmps27
    go_wp2_with fail
    refine (bare_errno k w hg).mono ?_
    rintro e w1 ⟨rfl, hc⟩
    go_wp2_with fail
    go_ret
    exact ⟨rfl, hc⟩
end Go.Proofs.YtdjmifaidgbbaaaGreatDoor

/-
  The walk of RecordBack.
-/
namespace Go.Proofs.YtdjmifaidgbbaaaGreatDoor
open Go.RowKit

/-- What stands behind a batch's bytes is not looked at; and less than all of them is not whole. -/
theorem back_more {base en : Int} {rs : List Rec} (h : encErr base en rs = 0) (more : List UInt8) :
    decErr (encAll base en rs ++ more) = 0 ∧ fromB (encAll base en rs ++ more) = (encAll base en rs).length ∧ (encAll base en rs ++ more).take (fromB (encAll base en rs ++ more)) = encAll base en rs := by
  obtain ⟨h0, hl, hf, hp⟩ := decErr_enc h
  have hlo : 8 ≤ (encAll base en rs).length := by omega
  have hfm : fromB (encAll base en rs ++ more) = fromB (encAll base en rs) := by
    have hg : ∀ j, j < 4 → (encAll base en rs ++ more).getD j 0 = (encAll base en rs).getD j 0 := by
      intro j hj
      simp only [List.getD_eq_getElem?_getD, List.getElem?_append_left (show j < (encAll base en rs).length by omega)]
    rw [fromB_eq, fromB_eq, hg 0 (by omega), hg 1 (by omega), hg 2 (by omega), hg 3 (by omega)]
  have hfl : fromB (encAll base en rs) = (encAll base en rs).length := by omega
  have hd4 : fromB ((encAll base en rs ++ more).drop 4) = fromB ((encAll base en rs).drop 4) := by
    have hg : ∀ j, j < 4 → ((encAll base en rs ++ more).drop 4).getD j 0 = ((encAll base en rs).drop 4).getD j 0 := by
      intro j hj
      simp only [List.getD_eq_getElem?_getD, List.getElem?_drop, List.getElem?_append_left (show 4 + j < (encAll base en rs).length by omega)]
    rw [fromB_eq, fromB_eq, hg 0 (by omega), hg 1 (by omega), hg 2 (by omega), hg 3 (by omega)]
  have ht : (encAll base en rs ++ more).take (fromB (encAll base en rs ++ more)) = encAll base en rs := by
    rw [hfm, hfl]; exact List.take_left' rfl
  refine ⟨?_, by rw [hfm, hfl], ht⟩
  have h0' := h0
  unfold decErr at h0' ⊢
  rw [ht, hd4, hfm]
  rw [List.take_of_length_le (by omega)] at h0'
  by_cases g1 : (encAll base en rs).length < 8
  · omega
  rw [if_neg g1] at h0'
  rw [if_neg (by rw [List.length_append]; omega)]
  by_cases g2 : fromB (encAll base en rs) < 11 ∨ 6000 < fromB (encAll base en rs)
  · rw [if_pos g2] at h0'; cases h0'
  rw [if_neg g2] at h0' ⊢
  rw [if_neg (by omega)] at h0'
  rw [if_neg (by rw [List.length_append]; omega)]
  exact h0'
theorem back_less {base en : Int} {rs : List Rec} (h : encErr base en rs = 0) {k : Nat} (hk : k < (encAll base en rs).length) : decErr ((encAll base en rs).take k) = 12 := by
  obtain ⟨h0, hl, hf, hp⟩ := decErr_enc h
  have hlen : ((encAll base en rs).take k).length = k := by rw [List.length_take]; omega
  unfold decErr
  by_cases g1 : k < 8
  · rw [if_pos (by omega)]
  · rw [if_neg (by omega)]
    have hfm : fromB ((encAll base en rs).take k) = fromB (encAll base en rs) := by
      have hg : ∀ j, j < 4 → ((encAll base en rs).take k).getD j 0 = (encAll base en rs).getD j 0 := by
        intro j hj
        simp only [List.getD_eq_getElem?_getD, List.getElem?_take, if_pos (show j < k by omega)]
      rw [fromB_eq, fromB_eq, hg 0 (by omega), hg 1 (by omega), hg 2 (by omega), hg 3 (by omega)]
    rw [hfm]
    have g2 : ¬ (fromB (encAll base en rs) < 11 ∨ 6000 < fromB (encAll base en rs)) := by
      intro g
      unfold decErr at h0
      rw [if_neg (by omega), if_pos g] at h0
      cases h0
    rw [if_neg g2, if_pos (by omega)]

theorem numbered_ok' {base : Int} {rs : List Rec} (h0 : 0 ≤ base) (h1 : base + rs.length ≤ 9223372036854775807) (h : ∀ r ∈ rs, r.Ok) : ∀ r ∈ numbered base rs, r.Ok := by
  induction rs generalizing base with
  | nil => simp [numbered]
  | cons x rs ih =>
    intro r hr
    simp only [List.length_cons] at h1
    rcases List.mem_cons.1 hr with rfl | hr
    · have hx := h x (by simp)
      exact ⟨by simp only; omega, hx.time, hx.key, hx.value⟩
    · exact ih (by omega) (by push_cast at h1; omega) (fun y hy => h y (by simp [hy])) r hr



end Go.Proofs.YtdjmifaidgbbaaaGreatDoor

/-
  A segment's batches, plain: where they lie, what its file is, what Open finds again.
-/
set_option linter.unusedSimpArgs false
set_option linter.unusedVariables false
namespace Go.Proofs.YtdjmifaidgbbaaaGreatDoor
open Go.RowKit

/-- A batch. -/
structure Bt where
  base : Int
  en : Int
  rs : List Rec
def Bt.bytes (b : Bt) : List UInt8 := encAll b.base b.en b.rs
structure Bt.Ok (b : Bt) : Prop where
  err : encErr b.base b.en b.rs = 0
  recs : ∀ r ∈ b.rs, Rec.Ok r
structure Bt.Nums (b : Bt) : Prop where
  lo : 0 ≤ b.base
  lt : b.base < b.en
  hi : b.en ≤ 1099511627776
  few : b.rs.length ≤ 50
  len : b.bytes.length ≤ 6000
  some : 11 ≤ b.bytes.length
theorem checked_of_enc {base en : Int} {rs : List Rec} (h : encErr base en rs = 0) : checkB base en rs = 0 := by
  unfold encErr at h
  by_cases hc : checkB base en rs = 0
  · exact hc
  · rw [if_pos hc] at h; exact absurd h hc
theorem Bt.Ok.nums {b : Bt} (h : b.Ok) : b.Nums := by
  have hc := checked_of_enc h.err
  obtain ⟨h0, hl, hf, hp⟩ := decErr_enc h.err
  have h0' := h0
  unfold decErr at h0'
  unfold checkB at hc
  by_cases g1 : b.base < 0 ∨ 1099511627776 < b.en
  · rw [if_pos g1] at hc; cases hc
  rw [if_neg g1] at hc
  by_cases g2 : b.en ≤ b.base
  · rw [if_pos g2] at hc; cases hc
  rw [if_neg g2] at hc
  by_cases g3 : 50 < b.rs.length ∨ 50 < b.en - b.base
  · rw [if_pos g3] at hc; cases hc
  by_cases g4 : (encAll b.base b.en b.rs).length < 8
  · rw [if_pos g4] at h0'; cases h0'
  rw [if_neg g4] at h0'
  by_cases g5 : fromB (encAll b.base b.en b.rs) < 11 ∨ 6000 < fromB (encAll b.base b.en b.rs)
  · rw [if_pos g5] at h0'; cases h0'
  have e : b.bytes.length = (encAll b.base b.en b.rs).length := rfl
  exact ⟨by omega, by omega, by omega, by omega, by omega, by omega⟩

def batBs (l : List Bt) : List UInt8 := l.flatMap Bt.bytes
theorem batBs_cons (b : Bt) (l : List Bt) : batBs (b :: l) = b.bytes ++ batBs l := List.flatMap_cons
theorem batBs_append (l m : List Bt) : batBs (l ++ m) = batBs l ++ batBs m := List.flatMap_append
theorem batBs_snoc (l : List Bt) (b : Bt) : batBs (l ++ [b]) = batBs l ++ b.bytes := by rw [batBs_append, batBs_cons]; simp [batBs]
/-- Where the batches lie, from a place on. -/
def plsOf : Nat → List Bt → List Pl
  | _, [] => []
  | n, b :: l => ⟨n, b.bytes.length, b.base, b.en, timeOf b.rs⟩ :: plsOf (n + b.bytes.length) l
theorem plsOf_length : ∀ (n : Nat) (l : List Bt), (plsOf n l).length = l.length
  | _, [] => rfl
  | n, b :: l => by rw [plsOf, List.length_cons, plsOf_length, List.length_cons]
theorem plsOf_snoc : ∀ (n : Nat) (l : List Bt) (b : Bt), plsOf n (l ++ [b]) = plsOf n l ++ [⟨n + (batBs l).length, b.bytes.length, b.base, b.en, timeOf b.rs⟩]
  | n, [], b => by simp [plsOf, batBs]
  | n, a :: l, b => by
    rw [List.cons_append, plsOf, plsOf_snoc, plsOf, batBs_cons, List.length_append, List.cons_append, Nat.add_assoc]
theorem plsOf_get : ∀ (n : Nat) (l : List Bt) (i : Nat) (hi : i < l.length), (plsOf n l)[i]? = some ⟨n + (batBs (l.take i)).length, l[i].bytes.length, l[i].base, l[i].en, timeOf l[i].rs⟩
  | n, [], i, hi => by simp at hi
  | n, a :: l, 0, hi => by simp [plsOf, batBs]
  | n, a :: l, i + 1, hi => by
    rw [plsOf, List.getElem?_cons_succ, plsOf_get _ l i (by simpa using hi), List.take_succ_cons, batBs_cons, List.length_append, Nat.add_assoc]
    rfl
/-- One behind the other, from an offset on. -/
def rising : Int → List Bt → Prop
  | _, [] => True
  | n, b :: l => n ≤ b.base ∧ rising b.en l
def lastEnd : Int → List Bt → Int
  | n, [] => n
  | _, b :: l => lastEnd b.en l
theorem lastEnd_snoc : ∀ (n : Int) (l : List Bt) (b : Bt), lastEnd n (l ++ [b]) = b.en
  | _, [], _ => rfl
  | _, a :: l, b => lastEnd_snoc a.en l b
theorem rising_snoc : ∀ {n : Int} {l : List Bt} {b : Bt}, rising n l → lastEnd n l ≤ b.base → rising n (l ++ [b])
  | _, [], _, _, h => ⟨h, trivial⟩
  | _, a :: l, b, h, h2 => ⟨h.1, rising_snoc h.2 h2⟩
theorem rising_take : ∀ {n : Int} {l : List Bt} (k : Nat), rising n l → rising n (l.take k)
  | _, [], k, _ => by rw [List.take_nil]; trivial
  | _, a :: l, 0, _ => trivial
  | _, a :: l, k + 1, h => ⟨h.1, rising_take k h.2⟩
theorem rising_next : ∀ {n : Int} {l : List Bt} {i : Nat} (hi : i < l.length), rising n l → lastEnd n (l.take i) ≤ l[i].base
  | _, a :: l, 0, _, h => h.1
  | _, a :: l, i + 1, hi, h => rising_next (n := a.en) (l := l) (i := i) (by simpa using hi) h.2
theorem rising_mem : ∀ {n : Int} {l : List Bt}, (∀ b ∈ l, b.Ok) → rising n l → ∀ b ∈ l, n ≤ b.base
  | _, [], _, _, b, hb => by cases hb
  | n, a :: l, hok, h, b, hb => by
    rcases List.mem_cons.1 hb with rfl | hb
    · exact h.1
    · have h1 := rising_mem (fun b hb => hok b (List.mem_cons_of_mem _ hb)) h.2 b hb
      have h2 := (hok a (List.mem_cons_self ..)).nums.lt
      have := h.1
      omega
theorem rising_lt : ∀ {n : Int} {l : List Bt}, (∀ b ∈ l, b.Ok) → rising n l → ∀ {i j : Nat} (hj : j < l.length) (hij : i < j), (l[i]'(Nat.lt_trans hij hj)).en ≤ l[j].base
  | n, a :: l, hok, h, 0, j + 1, hj, _ => rising_mem (fun b hb => hok b (List.mem_cons_of_mem _ hb)) h.2 _ (List.getElem_mem _)
  | n, a :: l, hok, h, i + 1, j + 1, hj, hij => rising_lt (l := l) (fun b hb => hok b (List.mem_cons_of_mem _ hb)) h.2 (by simpa using hj) (by omega)
theorem lastEnd_le : ∀ {n : Int} {l : List Bt}, (∀ b ∈ l, b.Ok) → rising n l → n ≤ lastEnd n l ∧ ∀ b ∈ l, b.en ≤ lastEnd n l
  | n, [], _, _ => ⟨Int.le_refl _, fun b hb => by cases hb⟩
  | n, a :: l, hok, h => by
    have h1 := lastEnd_le (fun b hb => hok b (List.mem_cons_of_mem _ hb)) h.2
    have h2 := (hok a (List.mem_cons_self ..)).nums.lt
    have := h.1
    refine ⟨by show n ≤ lastEnd a.en l; omega, fun b hb => ?_⟩
    rcases List.mem_cons.1 hb with rfl | hb
    · exact h1.1
    · exact h1.2 b hb

/-- The segment has these batches. -/
structure SgOf (g : Sg) (l : List Bt) : Prop where
  pls : g.pls = plsOf 0 l
  size : g.size = (batBs l).length
  ok : ∀ b ∈ l, b.Ok
  up : rising g.base l
theorem SgOf.next {g : Sg} {l : List Bt} (h : SgOf g l) : g.next = lastEnd g.base l := by
  unfold Sg.next
  rw [h.pls]
  rcases List.eq_nil_or_concat l with rfl | ⟨m, b, rfl⟩
  · rfl
  · rw [List.concat_eq_append, plsOf_snoc, lastEnd_snoc]
    simp
theorem SgOf.noted {g : Sg} {l : List Bt} (h : SgOf g l) {b : Bt} (hb : b.Ok) (hn : g.next ≤ b.base) : SgOf (g.noted b.base b.en b.rs b.bytes.length) (l ++ [b]) := by
  refine ⟨?_, ?_, ?_, rising_snoc h.up (by have h1 := h.next; show lastEnd g.base l ≤ b.base; omega)⟩
  · show g.pls ++ [_] = _
    rw [plsOf_snoc, h.pls, h.size, Nat.zero_add]
  · show g.size + b.bytes.length = _
    rw [batBs_snoc, List.length_append, h.size]
  · intro c hc
    rcases List.mem_append.1 hc with hc | hc
    · exact h.ok c hc
    · rw [List.mem_singleton.1 hc]; exact hb
/-- What Decode makes of a batch's bytes, whatever stands behind them. -/
theorem parse_more {b : Bt} (h : b.Ok) (more : List UInt8) : decErr (b.bytes ++ more) = 0 ∧ fromB (b.bytes ++ more) = b.bytes.length ∧ (parse (((b.bytes ++ more).take (fromB (b.bytes ++ more))).drop 8)) = ⟨b.base.toNat, (b.en - b.base).toNat, b.rs, ([], false)⟩ := by
  obtain ⟨h1, h2, h3⟩ := back_more h.err more
  obtain ⟨h0, hl, hf, hp⟩ := decErr_enc h.err
  refine ⟨h1, h2, ?_⟩
  rw [hf, ← hl, List.take_of_length_le (Nat.le_refl _)] at hp
  show parse ((List.take (fromB (encAll b.base b.en b.rs ++ more)) (encAll b.base b.en b.rs ++ more)).drop 8) = _
  rw [h3, hp]
/-- What Decode makes of bytes (nothing, if they are no batch). -/
structure DecV where
  base : Int
  en : Int
  n : Nat
  rs : List Rec
def decOut (l : List UInt8) : DecV :=
  if decErr l = 0 then ⟨((parse ((l.take (fromB l)).drop 8)).base : Nat), ((parse ((l.take (fromB l)).drop 8)).base : Int) + ((parse ((l.take (fromB l)).drop 8)).len : Nat), fromB l, (parse ((l.take (fromB l)).drop 8)).recs⟩ else ⟨0, 0, 0, []⟩
theorem decOut_bad {l : List UInt8} (h : decErr l ≠ 0) : decOut l = ⟨0, 0, 0, []⟩ := if_neg h
theorem decOut_whole {b : Bt} (h : b.Ok) (more : List UInt8) : decErr (b.bytes ++ more) = 0 ∧ decOut (b.bytes ++ more) = ⟨b.base, b.en, b.bytes.length, b.rs⟩ := by
  obtain ⟨h1, h2, h3⟩ := parse_more h more
  have hn := h.nums
  refine ⟨h1, ?_⟩
  unfold decOut
  rw [if_pos h1, h3, h2]
  have e1 : ((b.base.toNat : Nat) : Int) = b.base := Int.toNat_of_nonneg hn.lo
  have e2 : (b.base.toNat : Int) + ((b.en - b.base).toNat : Nat) = b.en := by have := hn.lt; have := hn.lo; omega
  show DecV.mk ((b.base.toNat : Nat) : Int) ((b.base.toNat : Int) + ((b.en - b.base).toNat : Nat)) _ _ = _
  rw [e2, e1]
/-- What Decode's value is, in this world. -/
def DecIs (n : Nat) (l : List UInt8) (v : Value) (w : World) : Prop :=
  ∃ u, v = .tuple #[.agg #[.int .i64 (decOut l).base, .int .i64 (decOut l).en, u], .int .i64 ((decOut l).n : Nat), errV 65 (decErr l)] ∧ OwnR 37 w u (decOut l).rs ∧ ∀ k, u.ownBlock = some k → n ≤ k
theorem decode_out (a : Option Addr) (l : List UInt8) (cap : Nat) (w : World) (hcap : l.length ≤ cap) (hl : cap ≤ maxLen) (hb : BytesAt w a l) :
    Calls Tryz.prog 90 #[.slice a l.length cap] w fun e w' => ∃ v, e = .returned v ∧ DecIs w.heap.size l v w' ∧ Chg Nil w w' := by
  refine (decode_any a l cap w hcap hl hb).mono ?_
  rintro e w' ⟨hch, hd⟩
  rcases hd with ⟨hne, rfl⟩ | ⟨h0, v, rfl, hown, hnew⟩
  · refine ⟨_, rfl, ⟨.slice none 0 0, ?_, ?_, fun k hk => by cases hk⟩, hch⟩
    · rw [decOut_bad hne]; rfl
    · rw [decOut_bad hne]; exact OwnR.nil _ _
  · have e1 : decOut l = ⟨((parse ((l.take (fromB l)).drop 8)).base : Nat), ((parse ((l.take (fromB l)).drop 8)).base : Int) + ((parse ((l.take (fromB l)).drop 8)).len : Nat), fromB l, (parse ((l.take (fromB l)).drop 8)).recs⟩ := if_pos h0
    refine ⟨_, rfl, ⟨v, ?_, ?_, hnew⟩, hch⟩
    · rw [e1, h0]; rfl
    · rw [e1]; exact hown
/-- What is read of the file where a batch begins. -/
theorem read_at (l : List Bt) (junk : List UInt8) {i : Nat} (hi : i < l.length) : (batBs l ++ junk).drop (batBs (l.take i)).length = l[i].bytes ++ (batBs (l.drop (i + 1)) ++ junk) := by
  have e : l = l.take i ++ l[i] :: l.drop (i + 1) := by rw [List.getElem_cons_drop, List.take_append_drop]
  have e2 : batBs l = batBs (l.take i) ++ (l[i].bytes ++ batBs (l.drop (i + 1))) := by
    conv => lhs; rw [e]
    rw [batBs_append, batBs_cons]
  rw [e2, List.append_assoc, List.drop_left' rfl, List.append_assoc]
end Go.Proofs.YtdjmifaidgbbaaaGreatDoor
