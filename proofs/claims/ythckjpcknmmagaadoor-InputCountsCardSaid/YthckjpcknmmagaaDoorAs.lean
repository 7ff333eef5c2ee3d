/-
  errors.As at the target of type *input.fault: of no error it says false; a fault it lays into the target.
-/
import Derived.Test.YthckjpcknmmagaaDoorHead
import Derived.LaidEql
import Derived.Stop.Asserts
import Derived.RowKitTokens
namespace Go.Proofs.YthckjpcknmmagaaDoor
open Go.RowKit Go.Extern.Stop Go.Stop Go.Extern
set_option maxRecDepth 100000
set_option maxHeartbeats 400000

/-- errors.As(nil, target). -/
theorem as_nil (t : Value) (w : World) : Calls Tryd.prog 40 #[.nilIface, t] w fun e w' => e = .returned (.bool false) ∧ w = w' := by
  go_enter Tryd.func40, Tryd.ntmps40
  go_wp2
  go_ret
  exact ⟨rfl, rfl⟩

/-! closed facts on the model's entries, at these types -/
abbrev hPtr : Value := .pointer (some ⟨1, 76, none⟩)
abbrev hFlt : Value := .pointer (some ⟨1, 69, none⟩)
theorem As.valueOfP (t : Addr) (w : World) : (ReflectliteValue.unpack (.iface 76 (.pointer (some t)))).run Tryd.prog w
    = .ok (.agg #[hPtr, .pointer (some ⟨w.heap.size, 0, none⟩), .int .u64 150]) (w.alloc (.cells #[.pointer (some t)] 76)) := by kernel_rfl
theorem As.typeP (a : Addr) (w : World) : (ReflectliteValue.methodAny (ReflectliteValue.valueError "reflectlite.Value.Type" 0) (fun t _ _ _ => ReflectliteType.toType t) #[.agg #[hPtr, .pointer (some a), .int .u64 150]]).run Tryd.prog w
    = .ok (.iface 116 (.agg #[hPtr])) w := by kernel_rfl
theorem As.kindP (w : World) : ((ReflectliteType.abiMethod fun t => (fun a : Nat => Value.int IntKind.u8 (a : Int)) <$> Rtype.kind t) #[hPtr]).run Tryd.prog w = .ok (.int .u8 22) w := by kernel_rfl
theorem As.kindF (w : World) : ((ReflectliteType.abiMethod fun t => (fun a : Nat => Value.int IntKind.u8 (a : Int)) <$> Rtype.kind t) #[hFlt]).run Tryd.prog w = .ok (.int .u8 25) w := by kernel_rfl
theorem rlm (z : Sem Value) (f : TypeId → Addr → Nat → Nat → Sem Value) (v : Value) :
    ReflectliteValue.method z f #[v] = (do match ← ReflectliteValue.parts v with | none => z | some (t, a, fl) => f t a fl (fl % 32)) := rfl
theorem As.partsP (a : Addr) (w : World) : (ReflectliteValue.parts (.agg #[hPtr, .pointer (some a), .int .u64 150])).run Tryd.prog w = .ok (some (76, a, 150)) w := by kernel_rfl
theorem As.isNilP (a p : Addr) (W : World) (ha : W.cell? a = some (.pointer (some p))) :
    (ReflectliteValue.method (ReflectliteValue.valueError "reflectlite.Value.IsNil" 0) ReflectliteValue.isNil #[.agg #[hPtr, .pointer (some a), .int .u64 150]]).run Tryd.prog W = .ok (.bool false) W := by
  rw [rlm]
  simp only [Sem.run_bind, As.partsP, Result.andThen]
  simp [ReflectliteValue.isNil, loadVar, isAgg, underlying, Tryd.underlying76, ha, Result.andThen]
theorem As.elemT (w : World) : (ReflectliteType.method ReflectliteType.elem #[.agg #[hPtr]]).run Tryd.prog w = .ok (.iface 116 (.agg #[hFlt])) w := by kernel_rfl
theorem As.implementsF (w : World) : (ReflectliteType.relation "Implements" ReflectliteType.implements_ #[.agg #[hFlt], .iface 116 (.agg #[.pointer (some ⟨1, 50, none⟩)])]).run Tryd.prog w = .ok (.bool true) w := by kernel_rfl
theorem As.typeOfF (v : Value) (w : World) : (ReflectliteType.typeOf #[.iface 69 v]).run Tryd.prog w = .ok (.iface 116 (.agg #[hFlt])) w := by kernel_rfl
theorem As.assignableF (w : World) : (ReflectliteType.relation "AssignableTo" ReflectliteType.assignableTo #[.agg #[hFlt], .iface 116 (.agg #[hFlt])]).run Tryd.prog w = .ok (.bool true) w := by kernel_rfl
theorem As.valueOfF (x y : Value) (w : World) : (ReflectliteValue.unpack (.iface 69 (.agg #[x, y]))).run Tryd.prog w
    = .ok (.agg #[hFlt, .pointer (some ⟨w.heap.size, 0, none⟩), .int .u64 153]) (w.alloc (.cells #[x, y] 69)) := by kernel_rfl
theorem As.elemOfP (w : World) : (Rtype.elem? 76).run Tryd.prog w = .ok (some 69) w := by kernel_rfl
theorem As.mkF (p : Addr) (w : World) : (ReflectliteValue.mk 69 p ReflectliteValue.flagAddr).run Tryd.prog w = .ok (.agg #[hFlt, .pointer (some p), .int .u64 409]) w := by kernel_rfl
theorem As.elemV (a p : Addr) (W : World) (ha : W.cell? a = some (.pointer (some p))) :
    (ReflectliteValue.method (ReflectliteValue.valueError "reflectlite.Value.Elem" 0) ReflectliteValue.elem #[.agg #[hPtr, .pointer (some a), .int .u64 150]]).run Tryd.prog W
      = .ok (.agg #[hFlt, .pointer (some p), .int .u64 409]) W := by
  rw [rlm]
  simp only [Sem.run_bind, As.partsP, Result.andThen]
  simp [ReflectliteValue.elem, loadVar, isAgg, underlying, Tryd.underlying76, ha, Result.andThen, As.elemOfP, As.mkF]
theorem As.partsA (a : Addr) (w : World) : (ReflectliteValue.parts (.agg #[hFlt, .pointer (some a), .int .u64 409])).run Tryd.prog w = .ok (some (69, a, 409)) w := by kernel_rfl
theorem As.partsF (a : Addr) (w : World) : (ReflectliteValue.parts (.agg #[hFlt, .pointer (some a), .int .u64 153])).run Tryd.prog w = .ok (some (69, a, 153)) w := by kernel_rfl
theorem As.direct (w : World) : (Rtype.directlyAssignable 69 69).run Tryd.prog w = .ok true w := by kernel_rfl

theorem rls (v x : Value) : ReflectliteValue.set #[v, x] = (do
    let (some (dst, a, fl), some (src, b, _)) := (← ReflectliteValue.parts v, ← ReflectliteValue.parts x)
      | unsupported (.noEntry "extern/(internal/reflectlite.Value).Set.zeroValue")
    if fl / ReflectliteValue.flagAddr % 2 == 0 then unsupported (.noEntry "extern/(internal/reflectlite.Value).Set.unaddressable")
    let val ← loadVar src b
    if ← Rtype.directlyAssignable dst src then storeVar dst a val
    else if ← Rtype.implements dst src then
      if (← Rtype.kind src) == 20 then
        match val with
        | .nilIface => unsupported (.noEntry "extern/reflectlite: a nil value of one interface type handed on as a value of another")
        | _ => storeVar dst a val
      else storeVar dst a (.iface src val)
    else panicString ("reflectlite.Set: value of type " ++ (← Rtype.spelt src) ++ " is not assignable to type " ++ (← Rtype.spelt dst))
    pure (.tuple #[])) := rfl
/-- (Value).Set: the variable at T gets what the Value's own variable at b holds. -/
theorem As.setF (T b : Nat) (x y o0 o1 : Value) (W : World) (hx : x.oneCell' = true) (hy : y.oneCell' = true) (hb0 : W.cell? ⟨b, 0, none⟩ = some x) (hb1 : W.cell? ⟨b, 1, none⟩ = some y)
    (ht0 : W.cell? ⟨T, 0, none⟩ = some o0) (ht1 : W.cell? ⟨T, 1, none⟩ = some o1) (hf0 : W.frozen? ⟨T, 0, none⟩ = false) (hf1 : W.frozen? ⟨T, 1, none⟩ = false) :
    (ReflectliteValue.set #[.agg #[hFlt, .pointer (some ⟨T, 0, none⟩), .int .u64 409], .agg #[hFlt, .pointer (some ⟨b, 0, none⟩), .int .u64 153]]).run Tryd.prog W
      = .ok (.tuple #[]) ((W.setCell ⟨T, 0, none⟩ x).setCell ⟨T, 1, none⟩ y) := by
  have hl : (loadCells ⟨b, 0, none⟩ 2).run Tryd.prog W = .ok #[x, y] W := by
    have := run_loadCells_list (P := Tryd.prog) W ⟨b, 0, none⟩ [x, y] (fun j v hj => by
      rw [Addr.add_lit]
      match j, hj with
      | 0, hj => simp at hj; subst hj; exact hb0
      | 1, hj => simp at hj; subst hj; exact hb1)
    simpa using this
  have hs : (storeCells ⟨T, 0, none⟩ [x, y]).run Tryd.prog W = .ok () ((W.setCell ⟨T, 0, none⟩ x).setCell ⟨T, 1, none⟩ y) := by
    have := run_storeCells_cells (P := Tryd.prog) T 0 [x, y] 0 W (fun j hj => by
        match j, hj with
        | 0, _ => simp [ht0]
        | 1, _ => simp [ht1])
      (fun j hj => by
        match j, hj with
        | 0, _ => simpa using hf0
        | 1, _ => simpa using hf1) (by simp [hx, hy])
    simpa [World.setCells] using this
  rw [rls]
  simp only [Sem.run_bind, As.partsA, As.partsF, Result.andThen]
  simp [ReflectliteValue.flagAddr, loadVar, isAgg, underlying, Tryd.underlying69, Result.andThen, As.direct, storeVar, Value.cells, hl, hs]
end Go.Proofs.YthckjpcknmmagaaDoor
