/-
  PROVED: DiskRenames, a bare row. No condition of our own.
-/
import Derived.Test.YthkajgangnmbdaaDr
import Derived.Test.YthkajgangnmbdaaPOpen
import Derived.ChangeMaps5
namespace Go.Proofs.Ythkajgangnmbdaa
open Go.ChangeShapes Go.WideShapes Go.RowKit Go.Deep Go.Joins Go.ChangeMaps
set_option maxRecDepth 100000

theorem diskRenames_lifted (os : Os) (started : os.Started) (H : Type) (enc : TypeId × Value → H) :
    ReturnsInHanded {} Try.checked os 3 .any (Rows.diskRenamesSpec.pre6 enc Try.prog Try.f3 [] false) (Rows.diskRenamesSpec.post enc Try.prog Try.f3 false true false false) := by
  refine returnsInHanded_of_change (C := Try.checked) Try.own started (by kernel_rfl) Try.func3
    (ChangeSpec.witness6 (enc := enc) (C := Try.checked) false ⟨#[], #[.slice none 0 0, .slice none 0 0, .bool false, .bool false], []⟩ 8 (by kernel_rfl) (by kernel_rfl) (by kernel_rfl) (by kernel_rfl)) ?_
  intro W base args ds gs before hval0 hW _ _
  have hval : ∀ (j : Nat) t v, Try.f3.params[j]? = some t → args[j]? = some v → Value.okWide Try.prog W .any base t v := hval0
  have hW' := hW
  obtain ⟨p, q, hA0, hV, rfl, hfz, hnd⟩ := hW
  have hA : DataW.TrodAll enc Try.prog W 0 (fun _ => true) true Try.f3.params.toList args.toList ds p := hA0
  rw [Try.params3] at hA hval
  obtain ⟨v0, vs0, d0, ds0, p0, q0, hargs0, rfl, rfl, h0, r0⟩ := trodAll_cons hA
  obtain ⟨v1, vs1, d1, ds1, p1, q1, hargs1, rfl, rfl, h1, r1⟩ := trodAll_cons r0
  obtain ⟨v2, vs2, d2, ds2, p2, q2, hargs2, rfl, rfl, h2, r2⟩ := trodAll_cons r1
  obtain ⟨v3, vs3, d3, ds3, p3, q3, hargs3, rfl, rfl, h3, r3⟩ := trodAll_cons r2
  obtain ⟨rfl, rfl, rfl⟩ := trodAll_nil r3
  obtain rfl : args = #[v0, v1, v2, v3] := by cases args; simp_all
  obtain ⟨rfl, rfl⟩ := trodVars_none hV
  have lt0 : ∀ x ∈ p0, x.block < W.heap.size := by obtain ⟨m, hm⟩ := h0; exact DataW.trod_lt m _ _ _ hm
  have k0 := hval 0 22 v0 rfl rfl
  have lt1 : ∀ x ∈ p1, x.block < W.heap.size := by obtain ⟨m, hm⟩ := h1; exact DataW.trod_lt m _ _ _ hm
  have k1 := hval 1 22 v1 rfl rfl
  have lt2 : ∀ x ∈ p2, x.block < W.heap.size := by obtain ⟨m, hm⟩ := h2; exact DataW.trod_lt m _ _ _ hm
  have k2 := hval 2 4 v2 rfl rfl
  have lt3 : ∀ x ∈ p3, x.block < W.heap.size := by obtain ⟨m, hm⟩ := h3; exact DataW.trod_lt m _ _ _ hm
  have k3 := hval 3 4 v3 rfl rfl
  clear hA0 hval0
  obtain ⟨x0, b0⟩ := rdB_open k0 h0
  obtain ⟨x1, b1⟩ := rdB_open k1 h1
  obtain ⟨x2, rfl, _, _⟩ := open_bool Try.underlying4 k2 h2
  obtain ⟨x3, rfl, _, _⟩ := open_bool Try.underlying4 k3 h3
  refine (renames_any v0 v1 x0 x1 x2 x3 W b0 b1).mono fun e W' ⟨he, bel⟩ => ?_
  subst he
  have bel' := gr_below0 bel
  exact ⟨_, rfl, _, _, _, [], _, [], hW', trodAll_mk1 (shut_bool Try.underlying4 _), (trodAll_cons_mk (Below.trod Try.lout (by kernel_rfl) (of_decide_eq_true (by kernel_rfl)) h0 bel' lt0) (trodAll_cons_mk (Below.trod Try.lout (by kernel_rfl) (of_decide_eq_true (by kernel_rfl)) h1 bel' lt1) (trodAll_cons_mk (Below.trod Try.lout (by kernel_rfl) (of_decide_eq_true (by kernel_rfl)) h2 bel' lt2) (trodAll_cons_mk (Below.trod Try.lout (by kernel_rfl) (of_decide_eq_true (by kernel_rfl)) h3 bel' lt3) trodAll_mk0)))), rfl, bel'.frame _, fun h => by cases h⟩

theorem diskRenames_said : Rows.DiskRenamesSaid :=
  OpenClaim.holds_of_wide 3 Try.f3 rfl rfl rfl rfl rfl rfl rfl ⟨rfl, rfl, rfl, rfl, rfl⟩ rfl rfl rfl rfl rfl (by kernel_rfl) Try.func3 (by kernel_rfl)
    (of_decide_eq_true (by kernel_rfl)) (by unfold Func.isWrapper; rw [if_neg (of_decide_eq_false (by kernel_rfl))]; exact ⟨rfl, rfl⟩)
    (fun os started H enc _ => diskRenames_lifted os started H enc)
end Go.Proofs.Ythkajgangnmbdaa
