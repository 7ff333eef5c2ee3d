/-
  errors.As: a fault is laid into the target; input.told tells it.
-/
import Derived.Test.YthckjpcknmmagaaDoorAs
namespace Go.Proofs.YthckjpcknmmagaaDoor
open Go.RowKit Go.Extern.Stop Go.Stop Go.Extern
set_option maxRecDepth 100000

/-- the package's variable of type 'error', as start-up lays it. -/
def Glob (w : World) : Prop := w.cell? ⟨0, 0, none⟩ = some (.iface 116 (.agg #[.pointer (some ⟨1, 50, none⟩)]))
theorem Glob.ext {w w' : World} (h : Glob w) (hg : w.grownBy w' none) : Glob w' := World.grownBy.cell hg h (by simp)
theorem Glob.gr {w w' : World} {k : Nat} (h : Glob w) (hg : w.grownBy w' (some k)) (hk : k ≠ 0) : Glob w' := World.grownBy.cell hg h (by simp; omega)

theorem set2 {w W : World} {T : Nat} {x y o0 o1 : Value} (hg : w.grownBy W none) (h0 : w.cell? ⟨T, 0, none⟩ = some o0) (h1 : w.cell? ⟨T, 1, none⟩ = some o1) :
    w.grownBy ((W.setCell ⟨T, 0, none⟩ x).setCell ⟨T, 1, none⟩ y) (some T) ∧ ((W.setCell ⟨T, 0, none⟩ x).setCell ⟨T, 1, none⟩ y).cell? ⟨T, 0, none⟩ = some x ∧ ((W.setCell ⟨T, 0, none⟩ x).setCell ⟨T, 1, none⟩ y).cell? ⟨T, 1, none⟩ = some y := by
  have k0 := hg.cell h0 (by simp)
  have k1 := hg.cell h1 (by simp)
  refine ⟨gr_trans (gr_trans (gr_of_none hg) (gr_setCell _ _ _) (.inl rfl)) (gr_setCell _ _ _) (.inl rfl), ?_, ?_⟩
  · rw [World.cell?_setCell_other _ _ _ _ (by simp), World.cell?_setCell_same _ _ _ k0]
  · rw [World.cell?_setCell_same' _ _ _ (by rw [World.cell?_setCell_other _ _ _ _ (by simp), k1]; rfl)]
theorem As.methodKind (n : Nat) (h : Value) (w : World) : (Go.method (n + 1) 116 (.agg #[h]) "Kind").run Tryd.prog w = .ok (88, h) w := by kernel_rfl
theorem As.methodElem (n : Nat) (h : Value) (w : World) : (Go.method (n + 1) 116 (.agg #[h]) "Elem").run Tryd.prog w = .ok (99, .agg #[h]) w := by kernel_rfl
theorem As.methodImplements (n : Nat) (h : Value) (w : World) : (Go.method (n + 1) 116 (.agg #[h]) "Implements").run Tryd.prog w = .ok (100, .agg #[h]) w := by kernel_rfl
theorem As.methodAssignableTo (n : Nat) (h : Value) (w : World) : (Go.method (n + 1) 116 (.agg #[h]) "AssignableTo").run Tryd.prog w = .ok (97, .agg #[h]) w := by kernel_rfl

set_option maxHeartbeats 4000000 in
theorem as_hit (T : Nat) (x y o0 o1 : Value) (w : World) (hg : Glob w) (hx : x.oneCell' = true) (hy : y.oneCell' = true)
    (ht0 : w.cell? ⟨T, 0, none⟩ = some o0) (ht1 : w.cell? ⟨T, 1, none⟩ = some o1) (hf0 : w.frozen? ⟨T, 0, none⟩ = false) (hf1 : w.frozen? ⟨T, 1, none⟩ = false) :
    Calls Tryd.prog 40 #[.iface 69 (.agg #[x, y]), .iface 76 (.pointer (some ⟨T, 0, none⟩))] w fun ev w' => ev = .returned (.bool true) ∧ w.grownBy w' (some T) ∧ w'.cell? ⟨T, 0, none⟩ = some x ∧ w'.cell? ⟨T, 1, none⟩ = some y := by
  have h6 := @run_callFunc_extern Tryd.prog 50 _ (fun args => ReflectliteValue.unpack (args.getD 0 (.tuple #[]))) Tryd.func50 (by kernel_rfl) (by kernel_rfl) (by kernel_rfl) (by kernel_rfl)
  have h7 := @run_callFunc_extern Tryd.prog 51 _ (ReflectliteValue.methodAny (ReflectliteValue.valueError "reflectlite.Value.Type" 0) (fun t _ _ _ => ReflectliteType.toType t)) Tryd.func51 (by kernel_rfl) (by kernel_rfl) (by kernel_rfl) (by kernel_rfl)
  have h8 := @run_callFunc_extern Tryd.prog 52 _ (ReflectliteValue.method (ReflectliteValue.valueError "reflectlite.Value.IsNil" 0) ReflectliteValue.isNil) Tryd.func52 (by kernel_rfl) (by kernel_rfl) (by kernel_rfl) (by kernel_rfl)
  have h27 := @run_callFunc_extern Tryd.prog 88 _ (ReflectliteType.abiMethod fun t => do pure (.int .u8 (← Rtype.kind t))) Tryd.func88 (by kernel_rfl) (by kernel_rfl) (by kernel_rfl) (by kernel_rfl)
  have h37 := @run_callFunc_extern Tryd.prog 99 _ (ReflectliteType.method ReflectliteType.elem) Tryd.func99 (by kernel_rfl) (by kernel_rfl) (by kernel_rfl) (by kernel_rfl)
  have h38 := @run_callFunc_extern Tryd.prog 100 _ (ReflectliteType.relation "Implements" ReflectliteType.implements_) Tryd.func100 (by kernel_rfl) (by kernel_rfl) (by kernel_rfl) (by kernel_rfl)
  have h10 := @run_callFunc_extern Tryd.prog 65 _ ReflectliteType.typeOf Tryd.func65 (by kernel_rfl) (by kernel_rfl) (by kernel_rfl) (by kernel_rfl)
  have h35 := @run_callFunc_extern Tryd.prog 97 _ (ReflectliteType.relation "AssignableTo" ReflectliteType.assignableTo) Tryd.func97 (by kernel_rfl) (by kernel_rfl) (by kernel_rfl) (by kernel_rfl)
  have h11 := @run_callFunc_extern Tryd.prog 66 _ (ReflectliteValue.method (ReflectliteValue.valueError "reflectlite.Value.Elem" 0) ReflectliteValue.elem) Tryd.func66 (by kernel_rfl) (by kernel_rfl) (by kernel_rfl) (by kernel_rfl)
  have h12 := @run_callFunc_extern Tryd.prog 67 _ ReflectliteValue.set Tryd.func67 (by kernel_rfl) (by kernel_rfl) (by kernel_rfl) (by kernel_rfl)
  have tO := As.typeOfF
  have a25 := As.assignableF
  have v25 := As.valueOfF
  have f6 := As.valueOfP
  have f7 := As.typeP
  have k27 := As.kindP
  have k25 := As.kindF
  have e27 := As.elemT
  have i25 := As.implementsF
  have n8 := As.isNilP
  have mK := As.methodKind
  have mE := As.methodElem
  have mI := As.methodImplements
  have mA := As.methodAssignableTo
  unfold Glob at hg
  have hlt : 0 < w.heap.size := World.block_lt_of_cell? w _ hg
  have htl : T < w.heap.size := World.block_lt_of_cell? w _ ht0
  have el := As.elemV ⟨w.heap.size, 0, none⟩ ⟨T, 0, none⟩ (((w.alloc (.cells #[.pointer (some ⟨T, 0, none⟩)] 76)).alloc (.cells #[hPtr, .pointer (some ⟨w.heap.size, 0, none⟩), .int .u64 150] 95)).alloc (.cells #[hPtr, .pointer (some ⟨w.heap.size, 0, none⟩), .int .u64 150] 95)) (by
    rw [World.cell?_alloc_past _ _ _ (by simp; omega), World.cell?_alloc_past _ _ _ (by simp), World.cell?_alloc_at _ _ _ _ rfl]; rfl)
  have st := As.setF T (w.heap.size + 1 + 1 + 1) x y o0 o1 ((((w.alloc (.cells #[.pointer (some ⟨T, 0, none⟩)] 76)).alloc (.cells #[hPtr, .pointer (some ⟨w.heap.size, 0, none⟩), .int .u64 150] 95)).alloc (.cells #[hPtr, .pointer (some ⟨w.heap.size, 0, none⟩), .int .u64 150] 95)).alloc (.cells #[x, y] 69)) hx hy
    (by rw [World.cell?_alloc_at _ _ _ _ (by simp)]; rfl) (by rw [World.cell?_alloc_at _ _ _ _ (by simp)]; rfl)
    (by rw [World.cell?_alloc_past _ _ _ (by simp; omega), World.cell?_alloc_past _ _ _ (by simp; omega), World.cell?_alloc_past _ _ _ (by simp; omega), World.cell?_alloc_past _ _ _ htl]; exact ht0)
    (by rw [World.cell?_alloc_past _ _ _ (by simp; omega), World.cell?_alloc_past _ _ _ (by simp; omega), World.cell?_alloc_past _ _ _ (by simp; omega), World.cell?_alloc_past _ _ _ htl]; exact ht1)
    (by rw [World.frozen?_alloc_past _ _ _ (by simp; omega), World.frozen?_alloc_past _ _ _ (by simp; omega), World.frozen?_alloc_past _ _ _ (by simp; omega), World.frozen?_alloc_past _ _ _ htl]; exact hf0)
    (by rw [World.frozen?_alloc_past _ _ _ (by simp; omega), World.frozen?_alloc_past _ _ _ (by simp; omega), World.frozen?_alloc_past _ _ _ (by simp; omega), World.frozen?_alloc_past _ _ _ htl]; exact hf1)
  go_enter Tryd.func40, Tryd.ntmps40
  go_wp2
  refine wp_loop_rounds 1 ?_
  rw [rounds_succ]
  go_wp2
  go_ret
  exact ⟨rfl, set2 (gr_none (gr_none (gr_none (gr_alloc _ _ _) (gr_alloc _ _ _)) (gr_alloc _ _ _)) (gr_alloc _ _ _)) ht0 ht1⟩

/-- what a fault is told as. -/
def Flt.e (f : Flt) : Nat := (f.getD (0, 0)).1
def Flt.p (f : Flt) : Nat := (f.getD (0, 0)).2

set_option maxHeartbeats 1000000 in
theorem told_any (f : Flt) (w : World) (hg : Glob w) :
    Calls Tryd.prog 26 #[errV f] w fun e w' => e = .returned (.tuple #[.int .i64 f.e, .int .i64 f.p]) ∧ w.grownBy w' none := by
  rcases f with _ | ⟨x, y⟩
  · unfold errV
    go_enter Tryd.func26, Tryd.ntmps26
    go_wp2_with (go_at_call 40; refine (as_nil _ _).mono ?_; rintro e w' ⟨rfl, rfl⟩)
    go_ret2
    exact ⟨rfl, gr_alloc _ _ _⟩
  · unfold errV
    go_enter Tryd.func26, Tryd.ntmps26
    go_wp2_with (go_at_call 40; refine (as_hit w.heap.size (.int .i64 x) (.int .i64 y) (.int .i64 0) (.int .i64 0) _ (hg.ext (gr_alloc _ _ _)) rfl rfl ?_ ?_ ?_ ?_).mono ?_)
    · simp
    · simp
    · simp
    · simp
    · rintro e w1 ⟨rfl, g1, c0, c1⟩
      go_wp2_with fail
      go_quiet (fail)
      go_wp2
      go_ret2
      exact ⟨rfl, gr_none (gr_trans (gr_alloc _ _ _) g1 (.inr fun k e => by cases e; exact Nat.le_refl _)) (gr_drewN _ _ _)⟩
end Go.Proofs.YthckjpcknmmagaaDoor
