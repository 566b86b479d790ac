/-
  errors.As at an Errno and at nil; api.Tell, plain.Bare, and the law's 'bare' at them (after the guide's worked example of errors.As at a concrete target).
-/
import Derived.Test.YtobegmcbfgnpnaaGreatDoorU07
import Derived.Stop.Asserts
set_option linter.unusedVariables false
set_option linter.unusedSimpArgs false
set_option maxHeartbeats 0
set_option maxRecDepth 200000
namespace Go.Proofs.YtobegmcbfgnpnaaGreatDoor
open Go.RowKit Go.Extern.Stop Go.Stop Go.Extern
def Handle (w:World):Prop:=w.cell? ⟨1,0,none⟩=some (.iface 271 (.agg #[.pointer (some ⟨12,24,none⟩)]))
theorem Handle.chg {S:Nat→Prop}{w w':World}(h:Handle w)(hc:Chg S w w')(hn:¬S 1):Handle w':=hc.cell h hn
theorem as_valueOfP (t:Addr) (w:World):(ReflectliteValue.unpack (.iface 135 (.pointer (some t)))).run Tryz.prog w
 = .ok (.agg #[.pointer (some ⟨12,135,none⟩),.pointer (some ⟨w.heap.size,0,none⟩),.int .u64 150]) (w.alloc (.cells #[.pointer (some t)] 135)):=by kernel_rfl
theorem as_typeP (a:Addr) (w:World):(ReflectliteValue.methodAny (ReflectliteValue.valueError "reflectlite.Value.Type" 0) (fun t _ _ _=>ReflectliteType.toType t) #[.agg #[.pointer (some ⟨12,135,none⟩),.pointer (some a),.int .u64 150]]).run Tryz.prog w
 = .ok (.iface 271 (.agg #[.pointer (some ⟨12,135,none⟩)])) w:=by kernel_rfl
theorem as_methodKind (h:Value) (w:World):(Go.method 485 271 (.agg #[h]) "Kind").run Tryz.prog w = .ok (281,h) w:=by kernel_rfl
theorem as_kindP (w:World):((ReflectliteType.abiMethod fun t=>(fun a:Nat=>Value.int IntKind.u8 (a:Int)) <$> Rtype.kind t) #[.pointer (some ⟨12,135,none⟩)]).run Tryz.prog w = .ok (.int .u8 22) w:=by kernel_rfl
theorem as_kindE (w:World):((ReflectliteType.abiMethod fun t=>(fun a:Nat=>Value.int IntKind.u8 (a:Int)) <$> Rtype.kind t) #[.pointer (some ⟨12,39,none⟩)]).run Tryz.prog w = .ok (.int .u8 2) w:=by kernel_rfl
theorem as_rlm (z:Sem Value) (f:TypeId→Addr→Nat→Nat→Sem Value) (v:Value) :
 ReflectliteValue.method z f #[v]=(do match ←ReflectliteValue.parts v with | none=>z | some (t,a,fl)=>f t a fl (fl % 32)):=rfl
theorem as_partsP (a:Addr) (w:World):(ReflectliteValue.parts (.agg #[.pointer (some ⟨12,135,none⟩),.pointer (some a),.int .u64 150])).run Tryz.prog w = .ok (some (135,a,150)) w:=by kernel_rfl
theorem as_isNilP (a p:Addr) (W:World)(ha:W.cell? a=some (.pointer (some p))) :
  (ReflectliteValue.method (ReflectliteValue.valueError "reflectlite.Value.IsNil" 0) ReflectliteValue.isNil #[.agg #[.pointer (some ⟨12,135,none⟩),.pointer (some a),.int .u64 150]]).run Tryz.prog W = .ok (.bool false) W:=by
 rw[as_rlm];simp only[Sem.run_bind,as_partsP,Result.andThen]
 simp[ReflectliteValue.isNil,loadVar,isAgg,underlying,Tryz.underlying135,ha,Result.andThen]
theorem as_methodElem (h:Value) (w:World):(Go.method 485 271 (.agg #[h]) "Elem").run Tryz.prog w = .ok (297,.agg #[h]) w:=by kernel_rfl
theorem as_methodImplements (h:Value) (w:World):(Go.method 485 271 (.agg #[h]) "Implements").run Tryz.prog w = .ok (298,.agg #[h]) w:=by kernel_rfl
theorem as_methodAssignableTo (h:Value) (w:World):(Go.method 485 271 (.agg #[h]) "AssignableTo").run Tryz.prog w = .ok (295,.agg #[h]) w:=by kernel_rfl
theorem as_elemP (w:World):(ReflectliteType.method ReflectliteType.elem #[.agg #[.pointer (some ⟨12,135,none⟩)]]).run Tryz.prog w = .ok (.iface 271 (.agg #[.pointer (some ⟨12,39,none⟩)])) w:=by kernel_rfl
theorem as_implementsE (w:World):(ReflectliteType.relation "Implements" ReflectliteType.implements_ #[.agg #[.pointer (some ⟨12,39,none⟩)],.iface 271 (.agg #[.pointer (some ⟨12,24,none⟩)])]).run Tryz.prog w = .ok (.bool true) w:=by kernel_rfl
theorem as_typeOfE (v:Value) (w:World):(ReflectliteType.typeOf #[.iface 39 v]).run Tryz.prog w = .ok (.iface 271 (.agg #[.pointer (some ⟨12,39,none⟩)])) w:=by kernel_rfl
theorem as_assignableE (w:World):(ReflectliteType.relation "AssignableTo" ReflectliteType.assignableTo #[.agg #[.pointer (some ⟨12,39,none⟩)],.iface 271 (.agg #[.pointer (some ⟨12,39,none⟩)])]).run Tryz.prog w = .ok (.bool true) w:=by kernel_rfl
theorem as_valueOfE (k:Int) (w:World):(ReflectliteValue.unpack (.iface 39 (.int .i64 k))).run Tryz.prog w
 = .ok (.agg #[.pointer (some ⟨12,39,none⟩),.pointer (some ⟨w.heap.size,0,none⟩),.int .u64 130]) (w.alloc (.cells #[.int .i64 k] 39)):=by kernel_rfl
theorem as_elemOfP (w:World):(Rtype.elem? 135).run Tryz.prog w = .ok (some 39) w:=by kernel_rfl
theorem as_mkE (p:Addr) (w:World):(ReflectliteValue.mk 39 p ReflectliteValue.flagAddr).run Tryz.prog w = .ok (.agg #[.pointer (some ⟨12,39,none⟩),.pointer (some p),.int .u64 386]) w:=by kernel_rfl
theorem as_elemVP (a p:Addr) (W:World)(ha:W.cell? a=some (.pointer (some p))) :
  (ReflectliteValue.method (ReflectliteValue.valueError "reflectlite.Value.Elem" 0) ReflectliteValue.elem #[.agg #[.pointer (some ⟨12,135,none⟩),.pointer (some a),.int .u64 150]]).run Tryz.prog W
   = .ok (.agg #[.pointer (some ⟨12,39,none⟩),.pointer (some p),.int .u64 386]) W:=by
 rw[as_rlm];simp only[Sem.run_bind,as_partsP,Result.andThen]
 simp[ReflectliteValue.elem,loadVar,isAgg,underlying,Tryz.underlying135,ha,Result.andThen,as_elemOfP,as_mkE]
theorem as_rls (v x:Value):ReflectliteValue.set #[v,x]=(do
 let (some (dst,a,fl),some (src,b,_)):=(←ReflectliteValue.parts v,←ReflectliteValue.parts x)
  | unsupported (.noEntry "extern/(internal/reflectlite.Value).Set.zeroValue")
 if fl / ReflectliteValue.flagAddr % 2==0 then unsupported (.noEntry "extern/(internal/reflectlite.Value).Set.unaddressable")
 let val ←loadVar src b
 if ←Rtype.directlyAssignable dst src then storeVar dst a val
 else if ←Rtype.implements dst src then
  if (←Rtype.kind src)==20 then
   match val with
   | .nilIface=>unsupported (.noEntry "extern/reflectlite: a nil value of one interface type handed on as a value of another")
   | _=>storeVar dst a val
  else storeVar dst a (.iface src val)
 else panicString ("reflectlite.Set: value of type " ++ (←Rtype.spelt src) ++ " is not assignable to type " ++ (←Rtype.spelt dst))
 pure (.tuple #[])):=rfl
theorem as_partsEa (a:Addr) (w:World):(ReflectliteValue.parts (.agg #[.pointer (some ⟨12,39,none⟩),.pointer (some a),.int .u64 386])).run Tryz.prog w = .ok (some (39,a,386)) w:=by kernel_rfl
theorem as_partsE (a:Addr) (w:World):(ReflectliteValue.parts (.agg #[.pointer (some ⟨12,39,none⟩),.pointer (some a),.int .u64 130])).run Tryz.prog w = .ok (some (39,a,130)) w:=by kernel_rfl
theorem as_directE (w:World):(Rtype.directlyAssignable 39 39).run Tryz.prog w = .ok true w:=by kernel_rfl
theorem as_setE (ta b:Addr) (k:Int) (old:Value) (W:World)(hb:W.cell? b=some (.int .i64 k))(ht:W.cell? ta=some old)(hf:W.frozen? ta=false) :
  (ReflectliteValue.set #[.agg #[.pointer (some ⟨12,39,none⟩),.pointer (some ta),.int .u64 386],.agg #[.pointer (some ⟨12,39,none⟩),.pointer (some b),.int .u64 130]]).run Tryz.prog W
   = .ok (.tuple #[]) (W.setCell ta (.int .i64 k)):=by
 rw[as_rls];simp only[Sem.run_bind,as_partsEa,as_partsE,Result.andThen]
 simp[ReflectliteValue.flagAddr,loadVar,isAgg,underlying,Tryz.underlying39,hb,Result.andThen,as_directE,storeVar,Value.cells,storeCells,Addr.add]
 rw[run_store Tryz.prog W ta _ _ (by rfl)]
 simp[ht,hf]
theorem as_hit (k:Int) (t:Addr) (old:Value) (w:World) (hg:Handle w) (ht0:w.cell? t=some old) (hf0:w.frozen? t=false) :
  Calls Tryz.prog 73 #[.iface 39 (.int .i64 k),.iface 135 (.pointer (some t))] w fun ev w'=>ev = .returned (.bool true)∧w'=((((w.alloc (.cells #[.pointer (some t)] 135)).alloc (.cells #[.pointer (some ⟨12,135,none⟩),.pointer (some ⟨w.heap.size,0,none⟩),.int .u64 150] 208)).alloc (.cells #[.pointer (some ⟨12,135,none⟩),.pointer (some ⟨w.heap.size,0,none⟩),.int .u64 150] 208)).alloc (.cells #[.int .i64 k] 39)).setCell t (.int .i64 k):=by
 unfold Handle at hg;have h6:=@run_callFunc_extern Tryz.prog 132 _ (fun args=>ReflectliteValue.unpack (args.getD 0 (.tuple #[]))) Tryz.func132 (by kernel_rfl) (by kernel_rfl) (by kernel_rfl) (by kernel_rfl)
 have h7:=@run_callFunc_extern Tryz.prog 133 _ (ReflectliteValue.methodAny (ReflectliteValue.valueError "reflectlite.Value.Type" 0) (fun t _ _ _=>ReflectliteType.toType t)) Tryz.func133 (by kernel_rfl) (by kernel_rfl) (by kernel_rfl) (by kernel_rfl)
 have h8:=@run_callFunc_extern Tryz.prog 134 _ (ReflectliteValue.method (ReflectliteValue.valueError "reflectlite.Value.IsNil" 0) ReflectliteValue.isNil) Tryz.func134 (by kernel_rfl) (by kernel_rfl) (by kernel_rfl) (by kernel_rfl)
 have h27:=@run_callFunc_extern Tryz.prog 281 _ (ReflectliteType.abiMethod fun t=>do pure (.int .u8 (←Rtype.kind t))) Tryz.func281 (by kernel_rfl) (by kernel_rfl) (by kernel_rfl) (by kernel_rfl)
 have h37:=@run_callFunc_extern Tryz.prog 297 _ (ReflectliteType.method ReflectliteType.elem) Tryz.func297 (by kernel_rfl) (by kernel_rfl) (by kernel_rfl) (by kernel_rfl)
 have h38:=@run_callFunc_extern Tryz.prog 298 _ (ReflectliteType.relation "Implements" ReflectliteType.implements_) Tryz.func298 (by kernel_rfl) (by kernel_rfl) (by kernel_rfl) (by kernel_rfl)
 have h10:=@run_callFunc_extern Tryz.prog 192 _ ReflectliteType.typeOf Tryz.func192 (by kernel_rfl) (by kernel_rfl) (by kernel_rfl) (by kernel_rfl)
 have h35:=@run_callFunc_extern Tryz.prog 295 _ (ReflectliteType.relation "AssignableTo" ReflectliteType.assignableTo) Tryz.func295 (by kernel_rfl) (by kernel_rfl) (by kernel_rfl) (by kernel_rfl)
 have h11:=@run_callFunc_extern Tryz.prog 193 _ (ReflectliteValue.method (ReflectliteValue.valueError "reflectlite.Value.Elem" 0) ReflectliteValue.elem) Tryz.func193 (by kernel_rfl) (by kernel_rfl) (by kernel_rfl) (by kernel_rfl)
 have h12:=@run_callFunc_extern Tryz.prog 194 _ ReflectliteValue.set Tryz.func194 (by kernel_rfl) (by kernel_rfl) (by kernel_rfl) (by kernel_rfl)
 have tO:=as_typeOfE
 have mA:=as_methodAssignableTo
 have aE:=as_assignableE
 have vE:=as_valueOfE
 have f6:=as_valueOfP
 have f7:=as_typeP
 have mK:=as_methodKind
 have mE:=as_methodElem
 have mI:=as_methodImplements
 have kP:=as_kindP
 have kE:=as_kindE
 have eP:=as_elemP
 have iE:=as_implementsE
 have n8:=as_isNilP ⟨w.heap.size,0,none⟩ t ((w.alloc (.cells #[.pointer (some t)] 135)).alloc (.cells #[.pointer (some ⟨12,135,none⟩),.pointer (some ⟨w.heap.size,0,none⟩),.int .u64 150] 208)) (by simp)
 have hlt:1<w.heap.size:=World.block_lt_of_cell? _ _ hg
 have hg2:((w.alloc (.cells #[.pointer (some t)] 135)).alloc (.cells #[.pointer (some ⟨12,135,none⟩),.pointer (some ⟨w.heap.size,0,none⟩),.int .u64 150] 208)).cell? ⟨1,0,none⟩=some (.iface 271 (.agg #[.pointer (some ⟨12,24,none⟩)])):=by
  rw[World.cell?_alloc_lt _ _ ⟨1,0,none⟩ (by rw[World.size_alloc];exact Nat.lt_succ_of_lt hlt),World.cell?_alloc_lt _ _ ⟨1,0,none⟩ hlt];exact hg
 have htl:t.block<w.heap.size:=by
  rcases Nat.lt_or_ge t.block w.heap.size with h | h
  ·exact h
  ·simp[World.cell?,Array.getElem?_eq_none h] at ht0
 have el:=as_elemVP ⟨w.heap.size,0,none⟩ t (((w.alloc (.cells #[.pointer (some t)] 135)).alloc (.cells #[.pointer (some ⟨12,135,none⟩),.pointer (some ⟨w.heap.size,0,none⟩),.int .u64 150] 208)).alloc (.cells #[.pointer (some ⟨12,135,none⟩),.pointer (some ⟨w.heap.size,0,none⟩),.int .u64 150] 208)) (by rw[World.cell?_alloc_lt _ _ ⟨w.heap.size,0,none⟩ (by simp;omega)];simp)
 have st:=as_setE t ⟨w.heap.size+1+1+1,0,none⟩ k old ((((w.alloc (.cells #[.pointer (some t)] 135)).alloc (.cells #[.pointer (some ⟨12,135,none⟩),.pointer (some ⟨w.heap.size,0,none⟩),.int .u64 150] 208)).alloc (.cells #[.pointer (some ⟨12,135,none⟩),.pointer (some ⟨w.heap.size,0,none⟩),.int .u64 150] 208)).alloc (.cells #[.int .i64 k] 39))
  (by rw[World.cell?_alloc_at _ _ _ _ (by simp)];rfl)
  (by rw[World.cell?_alloc_lt _ _ t (by simp;omega),World.cell?_alloc_lt _ _ t (by simp;omega),World.cell?_alloc_lt _ _ t (by simp;omega),World.cell?_alloc_lt _ _ t htl];exact ht0)
  (by rw[World.frozen?_alloc_old _ _ t (by simp;omega),World.frozen?_alloc_old _ _ t (by simp;omega),World.frozen?_alloc_old _ _ t (by simp;omega),World.frozen?_alloc_old _ _ t (Nat.ne_of_lt htl)];exact hf0)
 go_enter Tryz.func73,Tryz.ntmps73
 go_wp2
 refine wp_loop_rounds 1 ?_
 rw[rounds_succ];go_wp2
 go_ret;exact⟨rfl,rfl⟩
end Go.Proofs.YtobegmcbfgnpnaaGreatDoor
