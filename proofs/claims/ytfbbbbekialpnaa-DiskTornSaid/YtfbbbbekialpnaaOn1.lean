/-
  On: the map of loose sectors is cleared; files are stored in the places of others.
-/
import Derived.Test.YtfbbbbekialpnaaDi
import Derived.Test.YtfbbbbekialpnaaLi
import Derived.Test.YtfbbbbekialpnaaOnP
import Derived.Maps.OwnSet
namespace Go.Proofs.Ytfbbbbekialpnaa
open Go.RowKit Go.Maps
set_option maxRecDepth 100000

section
variable {w w' : World} {m n : Nat} {dom : List UInt8 → Option Nat} {L : List UInt8 → Int → Bool}
/-- clear(m). -/
theorem wp_lm_clear {ops : Array Oper} {rest : List Oper} {o : Oper} {a : Act} {Q : Exit → Act → World → Prop} (hg : o.guard = none) (mm : Operand) (hop : o.op = .call { callee := .builtin .clear, args := #[mm], argTypes := #[102] })
    (h : LM w m n L) (hm : a.eval mm = .map (some m))
    (hK : ∀ w', LM w' m 0 (fun _ _ => false) → w.grownBy w' (some m) → wpList Try.prog ops Q rest (a.put o.dst (.tuple #[])) w') : wpList Try.prog ops Q (o :: rest) a w := by
  obtain ⟨D, h, h0⟩ := h
  obtain ⟨es, clock, hb, F, _, _⟩ := h
  have hlt : m < w.heap.size := by
    rcases Nat.lt_or_ge m w.heap.size with h | h
    · exact h
    · rw [Array.getElem?_eq_none h] at hb; cases hb
  refine wpList_plain hg fun K hK' => ?_
  have hrun : (Builtin.clear_ #[102] o.type #[.map (some m)]).run Try.prog w = .ok (.tuple #[]) { w with heap := w.heap.setIfInBounds m (.map #[] clock) } := by
    simp [Builtin.clear_, run_underlying Try.underlying102, Go.MapKept.run_getObj_map hb, Go.MapKept.run_setObj_map _ hb, Result.andThen]
  unfold Oper.wp execOp
  simp only [hop, resolve, invoke, builtin, Sem.run_bind, Sem.run_pure, Result.andThen_ok, List.map_toArray, List.map_cons, List.map_nil, hm, hrun]
  refine hK' _ _ (hK _ ⟨.map [], ⟨#[], clock, ?_, ⟨by simp, Go.MapKept.stamped_empty clock, by simp⟩, Nat.le_refl _, rfl⟩, fun _ _ _ => rfl⟩ ⟨rfl, rfl, rfl, by simp, fun i hi hne => ?_⟩)
  · show (w.heap.setIfInBounds m (.map #[] clock))[m]? = _
    simp [hlt]
  · show (w.heap.setIfInBounds m (.map #[] clock))[i]? = _
    rw [Array.getElem?_setIfInBounds, if_neg (fun e => hne (by rw [e]))]
theorem size_put_le {H : Type} {D : DataW H} {kl : Lit} {x : DataW H} (hD : IsMap D) (h : has D kl = true) : Maps.size (D.put kl x) ≤ Maps.size D := by
  obtain ⟨es, rfl⟩ := hD
  rw [has_eq, List.any_eq_true] at h
  obtain ⟨p, hp, hs⟩ := h
  show (DataW.insert (kl, x) (es.filter fun p => !p.1.sameKey kl)).length ≤ es.length
  rw [length_insert]
  have := List.length_filter_lt_length_iff_exists (p := fun p : Lit × DataW H => !p.1.sameKey kl) (l := es) |>.2 ⟨p, hp, by simp [hs]⟩
  omega
/-- m[s] = &.., where there was one: the map grows no longer. -/
theorem wp_fm_reput {ops : Array Oper} {rest : List Oper} {o : Oper} {a : Act} {Q : Exit → Act → World → Prop} (hg : o.guard = none) (mm x v : Operand) (hop : o.op = .mapUpdate 101 mm x v)
    (h : FM w m n dom) (hm : a.eval mm = .map (some m)) (hn : n < maxLen) {s : List UInt8} (hs : s.length ≤ maxLen) (hin : dom s ≠ none) (hx : a.eval x = .string ⟨s.toArray⟩) (b : Nat) (hv : a.eval v = .pointer (some ⟨b, 0, none⟩))
    (hK : ∀ w', FM w' m n (fun x => if x = s then some b else dom x) → w.grownBy w' (some m) → wpList Try.prog ops Q rest (a.put o.dst undef) w') : wpList Try.prog ops Q (o :: rest) a w := by
  obtain ⟨D, h, h0, h1⟩ := h
  refine wpList_mapUpdate_own w hg mm x v _ hop 9 105 Try.keyedS Try.underlying101 ptrElem m n D hm h hn _ _ _ hx hv (keyS hs) (.lit (.int .i64 b)) [] rfl
    fun w' h' g' => hK w' ?_ g'
  obtain ⟨b0, hb0⟩ := Option.ne_none_iff_exists'.1 hin
  have hsz := size_put_le (x := (.lit (.int .i64 b) : Dt)) (FM.isMap h) (h1 s b0 hb0).2.1
  have hle := h.size_le
  obtain ⟨D', k1, k2, k3⟩ := FM.of_put (FM.isMap h) h0 h1 hs b h'
  obtain ⟨es, clock, q1, q2, q3, q4⟩ := h'
  have hes : es.size ≤ n := by
    have : Maps.size (D.put (.string s) (.lit (.int .i64 b))) = es.size := by rw [q4]; simp [Maps.size, Go.length_sorted]
    omega
  obtain ⟨D2, j1, j2, j3⟩ := FM.of_put (FM.isMap h) h0 h1 hs b (⟨es, clock, q1, q2, Nat.le_trans hes (Nat.le_succ n), q4⟩ : w'.ownsMap Try.prog 9 ptrElem m (n + 1) (D.put (.string s) (.lit (.int .i64 b))))
  obtain ⟨es2, clock2, p1, p2, p3, p4⟩ := j1
  have : es2 = es := by rw [q1] at p1; cases p1; rfl
  subst this
  exact ⟨D2, ⟨es2, clock2, p1, p2, hes, p4⟩, j2, j3⟩
end
end Go.Proofs.Ytfbbbbekialpnaa
