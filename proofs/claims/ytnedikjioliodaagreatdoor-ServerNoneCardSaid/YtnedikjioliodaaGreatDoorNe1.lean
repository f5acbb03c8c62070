/- Closed facts of errors.As at the two kinds of errors. -/
import Derived.Test.YtnedikjioliodaaGreatDoorMd1
import Derived.WalkKit
import Derived.KernelRfl
import Derived.LaidEql
import Derived.Stop.Asserts
import Derived.RowKitTokens
import Derived.Test.YtnedikjioliodaaGreatDoorProg
import Derived.Test.YtnedikjioliodaaGreatDoorMd2
set_option linter.all false
namespace Go.Proofs.Ea
open Go Go.RowKit Go.Extern
theorem th : typeHandle Tryz.prog 25 = .pointer (some ⟨4, 25, none⟩) := by kernel_rfl
-- ValueOf the targets
theorem valueOfK (t : Addr) (w : World) : (ReflectliteValue.unpack (.iface 130 (.pointer (some t)))).run Tryz.prog w
    = .ok (.agg #[.pointer (some ⟨4, 130, none⟩), .pointer (some ⟨w.heap.size, 0, none⟩), .int .u64 150]) (w.alloc (.cells #[.pointer (some t)] 130)) := by kernel_rfl
theorem valueOfF (t : Addr) (w : World) : (ReflectliteValue.unpack (.iface 555 (.pointer (some t)))).run Tryz.prog w
    = .ok (.agg #[.pointer (some ⟨4, 555, none⟩), .pointer (some ⟨w.heap.size, 0, none⟩), .int .u64 150]) (w.alloc (.cells #[.pointer (some t)] 555)) := by kernel_rfl
theorem typeK (a : Addr) (w : World) : (ReflectliteValue.methodAny (ReflectliteValue.valueError "reflectlite.Value.Type" 0) (fun t _ _ _ => ReflectliteType.toType t) #[.agg #[.pointer (some ⟨4, 130, none⟩), .pointer (some a), .int .u64 150]]).run Tryz.prog w
    = .ok (.iface 310 (.agg #[.pointer (some ⟨4, 130, none⟩)])) w := by kernel_rfl
theorem typeF (a : Addr) (w : World) : (ReflectliteValue.methodAny (ReflectliteValue.valueError "reflectlite.Value.Type" 0) (fun t _ _ _ => ReflectliteType.toType t) #[.agg #[.pointer (some ⟨4, 555, none⟩), .pointer (some a), .int .u64 150]]).run Tryz.prog w
    = .ok (.iface 310 (.agg #[.pointer (some ⟨4, 555, none⟩)])) w := by kernel_rfl
theorem ts : Tryz.prog.types.size = 602 := by kernel_rfl
theorem methodKind (h : Value) (w : World) : (Go.method (602 + 100) 310 (.agg #[h]) "Kind").run Tryz.prog w = .ok (456, h) w := by kernel_rfl
theorem kindPK (w : World) : ((ReflectliteType.abiMethod fun t => (fun a : Nat => Value.int IntKind.u8 (a : Int)) <$> Rtype.kind t) #[.pointer (some ⟨4, 130, none⟩)]).run Tryz.prog w = .ok (.int .u8 22) w := by kernel_rfl
theorem kindPF (w : World) : ((ReflectliteType.abiMethod fun t => (fun a : Nat => Value.int IntKind.u8 (a : Int)) <$> Rtype.kind t) #[.pointer (some ⟨4, 555, none⟩)]).run Tryz.prog w = .ok (.int .u8 22) w := by kernel_rfl
theorem kindK (w : World) : ((ReflectliteType.abiMethod fun t => (fun a : Nat => Value.int IntKind.u8 (a : Int)) <$> Rtype.kind t) #[.pointer (some ⟨4, 94, none⟩)]).run Tryz.prog w = .ok (.int .u8 2) w := by kernel_rfl
theorem kindF (w : World) : ((ReflectliteType.abiMethod fun t => (fun a : Nat => Value.int IntKind.u8 (a : Int)) <$> Rtype.kind t) #[.pointer (some ⟨4, 93, none⟩)]).run Tryz.prog w = .ok (.int .u8 22) w := by kernel_rfl
theorem methodElem (h : Value) (w : World) : (Go.method (602 + 100) 310 (.agg #[h]) "Elem").run Tryz.prog w = .ok (493, .agg #[h]) w := by kernel_rfl
theorem methodImplements (h : Value) (w : World) : (Go.method (602 + 100) 310 (.agg #[h]) "Implements").run Tryz.prog w = .ok (494, .agg #[h]) w := by kernel_rfl
theorem methodAssignableTo (h : Value) (w : World) : (Go.method (602 + 100) 310 (.agg #[h]) "AssignableTo").run Tryz.prog w = .ok (491, .agg #[h]) w := by kernel_rfl
theorem elemPK (w : World) : (ReflectliteType.method ReflectliteType.elem #[.agg #[.pointer (some ⟨4, 130, none⟩)]]).run Tryz.prog w = .ok (.iface 310 (.agg #[.pointer (some ⟨4, 94, none⟩)])) w := by kernel_rfl
theorem elemPF (w : World) : (ReflectliteType.method ReflectliteType.elem #[.agg #[.pointer (some ⟨4, 555, none⟩)]]).run Tryz.prog w = .ok (.iface 310 (.agg #[.pointer (some ⟨4, 93, none⟩)])) w := by kernel_rfl
theorem implK (w : World) : (ReflectliteType.relation "Implements" ReflectliteType.implements_ #[.agg #[.pointer (some ⟨4, 94, none⟩)], .iface 310 (.agg #[.pointer (some ⟨4, 25, none⟩)])]).run Tryz.prog w = .ok (.bool true) w := by kernel_rfl
theorem implF (w : World) : (ReflectliteType.relation "Implements" ReflectliteType.implements_ #[.agg #[.pointer (some ⟨4, 93, none⟩)], .iface 310 (.agg #[.pointer (some ⟨4, 25, none⟩)])]).run Tryz.prog w = .ok (.bool true) w := by kernel_rfl
theorem typeOfK (v : Value) (w : World) : (ReflectliteType.typeOf #[.iface 94 v]).run Tryz.prog w = .ok (.iface 310 (.agg #[.pointer (some ⟨4, 94, none⟩)])) w := by kernel_rfl
theorem typeOfF (v : Value) (w : World) : (ReflectliteType.typeOf #[.iface 93 v]).run Tryz.prog w = .ok (.iface 310 (.agg #[.pointer (some ⟨4, 93, none⟩)])) w := by kernel_rfl
theorem asgKK (w : World) : (ReflectliteType.relation "AssignableTo" ReflectliteType.assignableTo #[.agg #[.pointer (some ⟨4, 94, none⟩)], .iface 310 (.agg #[.pointer (some ⟨4, 94, none⟩)])]).run Tryz.prog w = .ok (.bool true) w := by kernel_rfl
theorem asgFF (w : World) : (ReflectliteType.relation "AssignableTo" ReflectliteType.assignableTo #[.agg #[.pointer (some ⟨4, 93, none⟩)], .iface 310 (.agg #[.pointer (some ⟨4, 93, none⟩)])]).run Tryz.prog w = .ok (.bool true) w := by kernel_rfl
theorem asgKF (w : World) : (ReflectliteType.relation "AssignableTo" ReflectliteType.assignableTo #[.agg #[.pointer (some ⟨4, 94, none⟩)], .iface 310 (.agg #[.pointer (some ⟨4, 93, none⟩)])]).run Tryz.prog w = .ok (.bool false) w := by kernel_rfl
theorem asgFK (w : World) : (ReflectliteType.relation "AssignableTo" ReflectliteType.assignableTo #[.agg #[.pointer (some ⟨4, 93, none⟩)], .iface 310 (.agg #[.pointer (some ⟨4, 94, none⟩)])]).run Tryz.prog w = .ok (.bool false) w := by kernel_rfl
theorem valueK (n : Int) (w : World) : (ReflectliteValue.unpack (.iface 94 (.int .i64 n))).run Tryz.prog w
    = .ok (.agg #[.pointer (some ⟨4, 94, none⟩), .pointer (some ⟨w.heap.size, 0, none⟩), .int .u64 130]) (w.alloc (.cells #[.int .i64 n] 94)) := by kernel_rfl
theorem valueF (e : Addr) (w : World) : (ReflectliteValue.unpack (.iface 93 (.pointer (some e)))).run Tryz.prog w
    = .ok (.agg #[.pointer (some ⟨4, 93, none⟩), .pointer (some ⟨w.heap.size, 0, none⟩), .int .u64 150]) (w.alloc (.cells #[.pointer (some e)] 93)) := by kernel_rfl
end Go.Proofs.Ea
namespace Go.Proofs.Ea
open Go Go.RowKit Go.Extern
theorem valueKg (v : Value) (w : World) : (ReflectliteValue.unpack (.iface 94 v)).run Tryz.prog w
    = .ok (.agg #[.pointer (some ⟨4, 94, none⟩), .pointer (some ⟨w.heap.size, 0, none⟩), .int .u64 130]) (w.alloc (.cells v.cells 94)) := by kernel_rfl
theorem valueFg (v : Value) (w : World) : (ReflectliteValue.unpack (.iface 93 v)).run Tryz.prog w
    = .ok (.agg #[.pointer (some ⟨4, 93, none⟩), .pointer (some ⟨w.heap.size, 0, none⟩), .int .u64 150]) (w.alloc (.cells v.cells 93)) := by kernel_rfl
theorem rlm (z : Sem Value) (f : TypeId → Addr → Nat → Nat → Sem Value) (v : Value) :
    ReflectliteValue.method z f #[v] = (do match ← ReflectliteValue.parts v with | none => z | some (t, a, fl) => f t a fl (fl % 32)) := rfl
theorem partsPK (a : Addr) (w : World) : (ReflectliteValue.parts (.agg #[.pointer (some ⟨4, 130, none⟩), .pointer (some a), .int .u64 150])).run Tryz.prog w = .ok (some (130, a, 150)) w := by kernel_rfl
theorem partsPF (a : Addr) (w : World) : (ReflectliteValue.parts (.agg #[.pointer (some ⟨4, 555, none⟩), .pointer (some a), .int .u64 150])).run Tryz.prog w = .ok (some (555, a, 150)) w := by kernel_rfl
theorem isNilPK (a p : Addr) (W : World) (ha : W.cell? a = some (.pointer (some p))) :
    (ReflectliteValue.method (ReflectliteValue.valueError "reflectlite.Value.IsNil" 0) ReflectliteValue.isNil #[.agg #[.pointer (some ⟨4, 130, none⟩), .pointer (some a), .int .u64 150]]).run Tryz.prog W = .ok (.bool false) W := by
  rw [rlm]
  simp only [Sem.run_bind, partsPK, Result.andThen]
  simp [ReflectliteValue.isNil, loadVar, isAgg, underlying, Tryz.underlying130, ha, Result.andThen]
theorem isNilPF (a p : Addr) (W : World) (ha : W.cell? a = some (.pointer (some p))) :
    (ReflectliteValue.method (ReflectliteValue.valueError "reflectlite.Value.IsNil" 0) ReflectliteValue.isNil #[.agg #[.pointer (some ⟨4, 555, none⟩), .pointer (some a), .int .u64 150]]).run Tryz.prog W = .ok (.bool false) W := by
  rw [rlm]
  simp only [Sem.run_bind, partsPF, Result.andThen]
  simp [ReflectliteValue.isNil, loadVar, isAgg, underlying, Tryz.underlying555, ha, Result.andThen]
theorem elemOfPK (w : World) : (Rtype.elem? 130).run Tryz.prog w = .ok (some 94) w := by kernel_rfl
theorem elemOfPF (w : World) : (Rtype.elem? 555).run Tryz.prog w = .ok (some 93) w := by kernel_rfl
theorem mkK (p : Addr) (w : World) : (ReflectliteValue.mk 94 p ReflectliteValue.flagAddr).run Tryz.prog w = .ok (.agg #[.pointer (some ⟨4, 94, none⟩), .pointer (some p), .int .u64 386]) w := by kernel_rfl
theorem mkF (p : Addr) (w : World) : (ReflectliteValue.mk 93 p ReflectliteValue.flagAddr).run Tryz.prog w = .ok (.agg #[.pointer (some ⟨4, 93, none⟩), .pointer (some p), .int .u64 406]) w := by kernel_rfl
theorem elemVPK (a p : Addr) (W : World) (ha : W.cell? a = some (.pointer (some p))) :
    (ReflectliteValue.method (ReflectliteValue.valueError "reflectlite.Value.Elem" 0) ReflectliteValue.elem #[.agg #[.pointer (some ⟨4, 130, none⟩), .pointer (some a), .int .u64 150]]).run Tryz.prog W
      = .ok (.agg #[.pointer (some ⟨4, 94, none⟩), .pointer (some p), .int .u64 386]) W := by
  rw [rlm]
  simp only [Sem.run_bind, partsPK, Result.andThen]
  simp [ReflectliteValue.elem, loadVar, isAgg, underlying, Tryz.underlying130, ha, Result.andThen, elemOfPK, mkK]
theorem elemVPF (a p : Addr) (W : World) (ha : W.cell? a = some (.pointer (some p))) :
    (ReflectliteValue.method (ReflectliteValue.valueError "reflectlite.Value.Elem" 0) ReflectliteValue.elem #[.agg #[.pointer (some ⟨4, 555, none⟩), .pointer (some a), .int .u64 150]]).run Tryz.prog W
      = .ok (.agg #[.pointer (some ⟨4, 93, none⟩), .pointer (some p), .int .u64 406]) W := by
  rw [rlm]
  simp only [Sem.run_bind, partsPF, Result.andThen]
  simp [ReflectliteValue.elem, loadVar, isAgg, underlying, Tryz.underlying555, ha, Result.andThen, elemOfPF, mkF]
theorem rls (v x : Value) : ReflectliteValue.set #[v, x] = (do
    let (some (dst, a, fl), some (src, b, _)) := (← ReflectliteValue.parts v, ← ReflectliteValue.parts x)
      | unsupported (.noEntry "extern/(internal/reflectlite.Value).Set.zeroValue")
    if fl / ReflectliteValue.flagAddr % 2 == 0 then unsupported (.noEntry "extern/(internal/reflectlite.Value).Set.unaddressable")
    let val ← loadVar src b
    if ← Rtype.directlyAssignable dst src then storeVar dst a val
    else if ← Rtype.implements dst src then
      if (← Rtype.kind src) == 20 then
        match val with
        | .nilIface => unsupported (.noEntry "extern/reflectlite: a nil value of one interface type handed on as a value of another")
        | _ => storeVar dst a val
      else storeVar dst a (.iface src val)
    else panicString ("reflectlite.Set: value of type " ++ (← Rtype.spelt src) ++ " is not assignable to type " ++ (← Rtype.spelt dst))
    pure (.tuple #[])) := rfl
theorem partsKa (a : Addr) (w : World) : (ReflectliteValue.parts (.agg #[.pointer (some ⟨4, 94, none⟩), .pointer (some a), .int .u64 386])).run Tryz.prog w = .ok (some (94, a, 386)) w := by kernel_rfl
theorem partsK (a : Addr) (w : World) : (ReflectliteValue.parts (.agg #[.pointer (some ⟨4, 94, none⟩), .pointer (some a), .int .u64 130])).run Tryz.prog w = .ok (some (94, a, 130)) w := by kernel_rfl
theorem partsFa (a : Addr) (w : World) : (ReflectliteValue.parts (.agg #[.pointer (some ⟨4, 93, none⟩), .pointer (some a), .int .u64 406])).run Tryz.prog w = .ok (some (93, a, 406)) w := by kernel_rfl
theorem partsF (a : Addr) (w : World) : (ReflectliteValue.parts (.agg #[.pointer (some ⟨4, 93, none⟩), .pointer (some a), .int .u64 150])).run Tryz.prog w = .ok (some (93, a, 150)) w := by kernel_rfl
theorem directK (w : World) : (Rtype.directlyAssignable 94 94).run Tryz.prog w = .ok true w := by kernel_rfl
theorem directF (w : World) : (Rtype.directlyAssignable 93 93).run Tryz.prog w = .ok true w := by kernel_rfl
theorem sizeK (w : World) : (sizeOf 94).run Tryz.prog w = .ok 1 w := by kernel_rfl
theorem sizeF (w : World) : (sizeOf 93).run Tryz.prog w = .ok 1 w := by kernel_rfl
theorem setK (ta b : Addr) (v old : Value) (W : World) (h1 : v.oneCell' = true) (hb : W.cell? b = some v) (ht : W.cell? ta = some old) (hf : W.frozen? ta = false) :
    (ReflectliteValue.set #[.agg #[.pointer (some ⟨4, 94, none⟩), .pointer (some ta), .int .u64 386], .agg #[.pointer (some ⟨4, 94, none⟩), .pointer (some b), .int .u64 130]]).run Tryz.prog W
      = .ok (.tuple #[]) (W.setCell ta v) := by
  rw [rls]
  simp only [Sem.run_bind, partsKa, partsK, Result.andThen]
  have hcl : v.cells = #[v] := by cases v <;> first | rfl | simp [Value.oneCell'] at h1
  simp [ReflectliteValue.flagAddr, loadVar, isAgg, underlying, Tryz.underlying94, hb, Result.andThen, directK, storeVar, hcl, storeCells, Addr.add]
  rw [run_store Tryz.prog W ta _ _ h1]
  simp [ht, hf]
theorem setF (ta b : Addr) (v old : Value) (W : World) (h1 : v.oneCell' = true) (hb : W.cell? b = some v) (ht : W.cell? ta = some old) (hf : W.frozen? ta = false) :
    (ReflectliteValue.set #[.agg #[.pointer (some ⟨4, 93, none⟩), .pointer (some ta), .int .u64 406], .agg #[.pointer (some ⟨4, 93, none⟩), .pointer (some b), .int .u64 150]]).run Tryz.prog W
      = .ok (.tuple #[]) (W.setCell ta v) := by
  rw [rls]
  simp only [Sem.run_bind, partsFa, partsF, Result.andThen]
  have hcl : v.cells = #[v] := by cases v <;> first | rfl | simp [Value.oneCell'] at h1
  simp [ReflectliteValue.flagAddr, loadVar, isAgg, underlying, Tryz.underlying93, hb, Result.andThen, directF, storeVar, hcl, storeCells, Addr.add]
  rw [run_store Tryz.prog W ta _ _ h1]
  simp [ht, hf]
theorem methodUnwrap (v : Value) (w : World) : (Go.method (602 + 100) 93 v "Unwrap").run Tryz.prog w = .ok (464, v) w := by kernel_rfl
theorem noAsK (v : Value) (xT : TypeId) (w : World) : (Instr.typeAssert (.iface 94 v) xT 315 true).run Tryz.prog w = .ok (.tuple #[.nilIface, .bool false]) w := run_typeAssert_lacksB Tryz.underlying315 (by kernel_rfl) (by kernel_rfl) v xT w
theorem noAsF (v : Value) (xT : TypeId) (w : World) : (Instr.typeAssert (.iface 93 v) xT 315 true).run Tryz.prog w = .ok (.tuple #[.nilIface, .bool false]) w := run_typeAssert_lacksB Tryz.underlying315 (by kernel_rfl) (by kernel_rfl) v xT w
theorem noUnK (v : Value) (xT : TypeId) (w : World) : (Instr.typeAssert (.iface 94 v) xT 318 true).run Tryz.prog w = .ok (.tuple #[.nilIface, .bool false]) w := run_typeAssert_lacksB Tryz.underlying318 (by kernel_rfl) (by kernel_rfl) v xT w
theorem hasUnF (v : Value) (xT : TypeId) (w : World) : (Instr.typeAssert (.iface 93 v) xT 318 true).run Tryz.prog w = .ok (.tuple #[.iface 93 v, .bool true]) w := run_typeAssert_hasB Tryz.underlying318 (by kernel_rfl) v xT w
theorem noUnsK (v : Value) (xT : TypeId) (w : World) : (Instr.typeAssert (.iface 94 v) xT 320 true).run Tryz.prog w = .ok (.tuple #[.nilIface, .bool false]) w := run_typeAssert_lacksB Tryz.underlying320 (by kernel_rfl) (by kernel_rfl) v xT w
theorem as_nil (t : Value) (w : World) : Calls Tryz.prog 49 #[.nilIface, t] w fun e w' => e = .returned (.bool false) ∧ w' = w := by
  go_enter Tryz.func49, Tryz.ntmps49
  go_wp2
  go_ret
  exact ⟨rfl, rfl⟩
theorem unwrap_ok (a : Addr) (v : Value) (w : World) (hs : a.spot = none) (hc : w.cell? ⟨a.block, a.off + 2, none⟩ = some v) : Calls Tryz.prog 464 #[.pointer (some a)] w fun e w' => e = .returned v ∧ w' = w := by
  obtain ⟨ab, ao, sp⟩ := a
  simp only at hs hc
  subst hs
  go_enter Tryz.func464, Tryz.ntmps464
  go_wp2
  go_ret
  exact ⟨rfl, rfl⟩
end Go.Proofs.Ea
