/-
  PROVED: InputMarks, its card: the row lists one variable of the library's (errors.errorType), tied by the card. No condition of our own.
-/
import Derived.Test.YtikgobndekgjcaaDoorMarks
import Derived.Test.YtikgobndekgjcaaDoorP1
import Derived.Test.YtikgobndekgjcaaDoorArgs
namespace Go.Proofs.YtikgobndekgjcaaDoor
open Go.ChangeShapes Go.WideShapes Go.RowKit Go.Deep Go.Joins
set_option maxRecDepth 100000

theorem slice_of_trod {H : Type} {enc : TypeId × Value → H} {W : World} {base n : Nat} {spare : Nat → Bool} {held : Bool} {v : Value} {y : DataW H × List MemPlace} (h : DataW.trod enc Tryd.prog W base spare held n 26 [v] = some y) : ∃ A n c, v = .slice A n c := by
  rcases open_slice Tryd.underlying26 h with ⟨hc, _⟩ | ⟨a, len, cap, m, k, D, Pl, hc, _⟩
  · simp at hc; exact ⟨_, _, _, hc⟩
  · simp at hc; exact ⟨_, _, _, hc⟩
theorem inputMarks_lifted (os : Os) (started : os.Started) (H : Type) (enc : TypeId × Value → H) :
    ReturnsInHanded {} Tryd.checked os 8 .any (fun w args => (Rows.inputMarksSpec.pre enc Tryd.prog Tryd.f8 [] false w args ∧ laidMetH Tryd.prog [("errors.errorType", Rows.laid_errors_errorType)] w) ∧ sizedMet enc Tryd.prog Tryd.f8 (OpenSpec.ofChange Rows.inputMarksSpec) false w args)
      (Rows.inputMarksSpec.post enc Tryd.prog Tryd.f8 false true false false) := by
  refine returnsInHanded_of_change_and (C := Tryd.checked) (X := fun w _ => laidMetH Tryd.prog [("errors.errorType", Rows.laid_errors_errorType)] w) (fun _ _ _ hh h => h.of_heap hh) Tryd.own started (by kernel_rfl) Tryd.func8
    (ChangeSpec.witness_at (enc := enc) (C := Tryd.checked) (os := os) (X := fun w _ => laidMetH Tryd.prog [("errors.errorType", Rows.laid_errors_errorType)] w) false (laidWorld os) #[.agg #[.int .u32 0, .slice none 0 0, .int .u8 0, .int .u8 0]] 8 rfl (by kernel_rfl) (by kernel_rfl) (by kernel_rfl) (by kernel_rfl) (by kernel_rfl) (laidWorld_met os _)) ?_
  intro W base args ds gs before hval0 hW _ _ hL _
  have hval : ∀ (j : Nat) t v, Tryd.f8.params[j]? = some t → args[j]? = some v → Value.okWide Tryd.prog W .any base t v := hval0
  have hW' := hW
  obtain ⟨p, q, hA0, hV, rfl, hfz, hnd⟩ := hW
  have hA : DataW.TrodAll enc Tryd.prog W 0 (fun _ => true) true Tryd.f8.params.toList args.toList ds p := hA0
  rw [Tryd.params8] at hA hval
  obtain ⟨v0, vs0, d0, ds0, p0, q0, hargs0, rfl, rfl, h0, r0⟩ := trodAll_cons hA
  obtain ⟨rfl, rfl, rfl⟩ := trodAll_nil r0
  obtain rfl : args = #[v0] := by cases args; simp_all
  obtain ⟨rfl, rfl⟩ := trodVars_none hV
  have lt0 : ∀ x ∈ p0, x.block < W.heap.size := by obtain ⟨m, hm⟩ := h0; exact DataW.trod_lt m _ _ _ hm
  have k0 := hval 0 50 v0 rfl rfl
  clear hA0 hval0
  have kk := k0
  obtain ⟨_, v1, _, _, _, _, _, _, n0, rfl, _, _, f0, f1, f2, f3⟩ := open_agg4 Tryd.underlying50 (by kernel_rfl) (by kernel_rfl) k0 h0
  obtain ⟨y0, rfl⟩ := rd_u32 Tryd.underlying25 f0
  obtain ⟨y2, rfl⟩ := rd_u8 Tryd.underlying5 f2
  obtain ⟨y3, rfl⟩ := rd_u8 Tryd.underlying5 f3
  obtain ⟨A1, n1, c1, rfl⟩ := slice_of_trod f1
  obtain ⟨y1, b1⟩ := rdE_trod rfl f1
  refine (marks_any y0 _ y2 y3 y1 W (handle_of_laid hL) b1).mono fun e W' ⟨he, bel⟩ => ?_
  subst he
  have bel' := gr_below0 bel
  exact ⟨_, rfl, _, _, _, [], _, [], hW', trodAll_mk1 (shut_bool Tryd.underlying4 _), (trodAll_cons_mk (Below.trod Tryd.lout (by kernel_rfl) (of_decide_eq_true (by kernel_rfl)) h0 bel' lt0) trodAll_mk0), rfl, bel'.frame _, fun h => by cases h⟩

theorem inputMarks_said : Rows.InputMarksSaid :=
  OpenClaim.holds_of_wide 8 Tryd.f8 rfl rfl rfl rfl rfl rfl rfl ⟨rfl, rfl, rfl, rfl, rfl⟩ rfl rfl rfl rfl rfl (by kernel_rfl) Tryd.func8 (by kernel_rfl)
    (of_decide_eq_true (by kernel_rfl)) (by unfold Func.isWrapper; rw [if_neg (of_decide_eq_false (by kernel_rfl))]; exact ⟨rfl, rfl⟩)
    (fun os started H enc _ => inputMarks_lifted os started H enc)
theorem inputMarks_card : Rows.InputMarksCardSaid :=
  Claim7.holds_tied_plain_at .later [] [.handle] true (true, "0f350f4ae122a4270a54b60522761eefbd319d3586dab03dc955aff64ca56bc7") true
    inputMarks_said (fun _ h => by cases h) (by kernel_rfl) (fun _ h => by cases h) inputMarks_row_tie rfl ⟨rfl, rfl⟩ (by kernel_rfl) rfl
    (fun f fn hf hfn => by
      obtain rfl : f = 8 := (Option.some.inj ((show Tryd.prog.funcNamed "milepost/milepostlaw05.InputMarks" = some 8 by kernel_rfl).symm.trans hf)).symm
      obtain rfl : fn = Tryd.f8 := (Option.some.inj (Tryd.func8.symm.trans hfn)).symm
      exact ⟨by kernel_rfl, fun j t ht => by
        rw [Tryd.params8] at ht
        rcases j with _ | j <;> simp at ht <;> subst ht
        · exact (show Tryd.prog.wantsStandIn 50 = false by kernel_rfl)⟩)
    (by kernel_rfl)
end Go.Proofs.YtikgobndekgjcaaDoor
