/-
  Lists of whole numbers: append, has.
-/
import Derived.Test.YtfbbbbekialpnaaL6
namespace Go.Proofs.Ytfbbbbekialpnaa
open Go.RowKit
set_option maxRecDepth 100000
set_option maxHeartbeats 400000

theorem Try.infoI : (Try.prog.info? 3).map (fun i => (i.zero, i.size, i.bytes)) = some (some (.int .i64 0), 1, 8) := by kernel_rfl
def OwnI (w : World) (B : Nat) (v : Value) (l : List Int) : Prop := Own w B 1 v l.length (intL l)
def RdI (w : World) (v : Value) (l : List Int) : Prop := Rd w 1 v l.length (intL l)
theorem int_one (l : List Int) : ∀ u ∈ intL l, u.oneCell' = true := by
  intro u hu
  obtain ⟨b, _, rfl⟩ := List.mem_map.1 hu
  rfl
theorem own_appI {w : World} {B : Nat} {v : Value} {l m : List Int} (h : Own w B 1 v (l.length + m.length) (intL l ++ intL m)) : OwnI w B v (l ++ m) := by
  unfold OwnI intL
  rw [List.length_append, List.map_append]
  exact h
theorem wp_appI {ops : Array Oper} {rest : List Oper} {o : Oper} {a : Act} {Q : Exit → Act → World → Prop} {w : World} (hgd : o.guard = none) (s0 x0 : Operand)
    (ho : o.op = .call { callee := .builtin .append, args := #[s0, x0], argTypes := #[24, 24] }) {B : Nat} {v x : Value} {l m : List Int} (hs : a.eval s0 = v) (hown : OwnI w B v l)
    (hx : a.eval x0 = x) (hr : RdI w x m) (hn : l.length + m.length ≤ 1000000000) (hB : B ≤ w.heap.size)
    (h : ∀ v' w', OwnI w' B v' (l ++ m) → w.grownBy w' v.ownBlock → (v'.ownBlock = v.ownBlock ∨ ∃ k, v'.ownBlock = some k ∧ w.heap.size ≤ k) → wpList Try.prog ops Q rest (a.put o.dst v') w') :
    wpList Try.prog ops Q (o :: rest) a w :=
  wp_app w hgd s0 x0 _ ho B 3 _ 1 8 Try.underlying24 Try.infoI rfl (by omega) v _ _ hs hown x _ _ hx hr (int_one m) (by unfold maxLen; omega) (by omega) hB
    fun v' w' h1 h2 h3 => h v' w' (own_appI h1) h2 h3
theorem own_emptyI (w : World) (B : Nat) (hB : B ≤ w.heap.size) : OwnI (w.alloc (.cells #[] 3)) B (.slice (some ⟨w.heap.size, 0, none⟩) 0 0) [] :=
  own_lit w B 1 0 0 #[] _ (0, 0) (.inl (by simp)) rfl (Nat.le_refl _) (Nat.zero_le _) hB
theorem RdI.form {w : World} {v : Value} {l : List Int} (h : RdI w v l) : ∃ A c, v = .slice A l.length c := by
  obtain ⟨_, A, c, _, _, e, _⟩ := h; exact ⟨A, c, e⟩
theorem RdI.ext {w w' : World} {v : Value} {l : List Int} (h : RdI w v l) (hg : w.grownBy w' none) : RdI w' v l := Rd.ext h hg
theorem has6_any (v : Value) (xs : List Int) (x : Int) (w : World) (h : RdI w v xs) (hn : xs.length ≤ 1000000000) :
    Calls Try.prog 26 #[v, .int .i64 x] w fun e w' => e = .returned (.bool (memI xs x)) ∧ w = w' := by
  obtain ⟨hl, A, c, g, off, rfl, hnc, hc, _, hA, hx⟩ := h
  go_enter Try.func26, Try.ntmps26
  have Hl := Lib.hid hl
  clear hl
  go_wp2
  go_loop [5] (fun i => ∃ k : Nat, k ≤ xs.length ∧ i = .int .i64 k ∧ x ∉ xs.take k) (fun i => xs.length - (intOf i).toNat)
  case atStart => exact ⟨0, by omega, rfl, by simp⟩
  case round =>
    obtain ⟨k, hk, rfl, hno⟩ := hrel
    have Hno := Lib.hid hno
    clear hno
    by_cases hlt : k < xs.length
    · have := hA (by omega)
      subst this
      have hcell : w.cell? ⟨g, off + k, none⟩ = some (.int .i64 xs[k]) := by rw [hx k (by omega)]; simp [intL, hlt]
      clear hx
      by_cases hxk : x = xs[k]
      · have hxk' : (xs[k] == x) = true := by simpa using hxk.symm
        have Hxk : Hid (memI xs x = true) := by
          show xs.contains x = true
          rw [hxk]; simp
        clear hxk
        go_wp2
        go_ret
        exact ⟨by rw [Hxk.out]; rfl, rfl⟩
      · have hxk' : (xs[k] == x) = false := by simpa using fun e => hxk e.symm
        have Hxk := Lib.hid hxk
        clear hxk
        go_wp2
        go_round
        case rel => exact ⟨k + 1, by omega, by go_num, not_mem_take_succ hlt Hno.out Hxk.out⟩
        case measure => simp [intOf]; omega
    · have : k = xs.length := by omega
      subst this
      have Hm : Hid (memI xs x = false) := by
        show xs.contains x = false
        have := Hno.out
        rw [List.take_length] at this
        simpa using this
      go_wp2
      go_ret
      exact ⟨by rw [Hm.out]; rfl, rfl⟩
/-- an operation whose guard lets it run. -/
theorem wpList_on {P : Program} {ops : Array Oper} {rest : List Oper} {o : Oper} {a : Act} {w : World} {Q : Exit → Act → World → Prop} (hw : Region.wanted o (yielded ops a.tmps) = true)
    (h : ∀ K : Act → World → Prop, (∀ a w, wpList P ops Q rest a w → K a w) → o.wp P a w K Q) : wpList P ops Q (o :: rest) a w :=
  wpList_step fun K hK => by rw [if_pos hw]; exact h K hK
/-- append(v, x...) of whole numbers, behind a guard. -/
theorem wp_appI_on {ops : Array Oper} {rest : List Oper} {o : Oper} {a : Act} {Q : Exit → Act → World → Prop} {w : World} (hgd : Region.wanted o (yielded ops a.tmps) = true) (s0 x0 : Operand)
    (ho : o.op = .call { callee := .builtin .append, args := #[s0, x0], argTypes := #[24, 24] }) {B : Nat} {v x : Value} {l m : List Int} (hs : a.eval s0 = v) (hown : OwnI w B v l)
    (hx : a.eval x0 = x) (hr : RdI w x m) (hn : l.length + m.length ≤ 1000000000) (hB : B ≤ w.heap.size)
    (h : ∀ v' w', OwnI w' B v' (l ++ m) → w.grownBy w' v.ownBlock → (v'.ownBlock = v.ownBlock ∨ ∃ k, v'.ownBlock = some k ∧ w.heap.size ≤ k) → wpList Try.prog ops Q rest (a.put o.dst v') w') :
    wpList Try.prog ops Q (o :: rest) a w := by
  refine wpList_on hgd fun K hK => ?_
  obtain ⟨v', w', hrun, h2, h3, h4⟩ := run_app (P := Try.prog) w B 24 o.type 3 _ 1 8 Try.underlying24 Try.infoI rfl (by omega) v _ _ hown x _ _ hr (int_one m) (by unfold maxLen; omega) (by omega) hB
  unfold Oper.wp execOp
  simp only [ho, resolve, invoke, builtin, Sem.run_bind, Sem.run_pure, Result.andThen_ok, List.map_toArray, List.map_cons, List.map_nil, hs, hx, hrun]
  exact hK _ _ (h v' w' (own_appI h2) h3 h4)
end Go.Proofs.Ytfbbbbekialpnaa
