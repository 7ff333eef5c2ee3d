/-
  milepostref00's texts: what lists of bytes say.
-/
import Derived.Test.YtikgobndekgjcaaDoorApp
namespace Go.Proofs.YtikgobndekgjcaaDoor
open Go.RowKit
set_option maxRecDepth 100000
set_option maxHeartbeats 400000

def strV (l : List UInt8) : Value := .string ⟨l.toArray⟩
def OwnT (w : World) (B : Nat) (v : Value) (ls : List (List UInt8)) : Prop := Own w B 1 v ls.length (ls.map strV)
def RdT (w : World) (v : Value) (ls : List (List UInt8)) : Prop := Rd w 1 v ls.length (ls.map strV)
section
variable {w w' : World} {B : Nat} {v : Value} {ls : List (List UInt8)}
theorem OwnT.rd (h : OwnT w B v ls) : RdT w v ls := Own.rd h
theorem RdT.ext (h : RdT w v ls) (hg : w.grownBy w' none) : RdT w' v ls := Rd.ext h hg
theorem RdT.form (h : RdT w v ls) : ∃ A c, v = .slice A ls.length c := by
  obtain ⟨_, A, c, _, _, e, _⟩ := h; exact ⟨A, c, e⟩
theorem OwnT.nil (w : World) (B : Nat) : OwnT w B (.slice none 0 0) [] := Own.nil _ _ _
theorem RdT.at_ {A : Option Addr} {c : Nat} (h : RdT w (.slice A ls.length c) ls) : ∃ g off, ls.length ≤ c ∧ (0 < ls.length → A = some ⟨g, off, none⟩) ∧ ∀ k (hk : k < ls.length), w.cell? ⟨g, off + k, none⟩ = some (strV ls[k]) := by
  obtain ⟨_, _, _, g, off, e, hn, hc, _, hA, hx⟩ := h
  cases e
  refine ⟨g, off, hn, fun h0 => hA (by omega), fun k hk => ?_⟩
  rw [hx k (by omega), List.getElem?_map, List.getElem?_eq_getElem hk]
  rfl
end
theorem t_one (l : List (List UInt8)) : ∀ u ∈ l.map strV, u.oneCell' = true := by
  intro u hu
  obtain ⟨x, _, rfl⟩ := List.mem_map.1 hu
  rfl
theorem Tryd.infoS : (Tryd.prog.info? 9).map (fun i => (i.zero, i.size, i.bytes)) = some (some (.string ⟨#[]⟩), 1, 16) := by kernel_rfl
theorem wp_app1T {ops : Array Oper} {rest : List Oper} {o : Oper} {a : Act} {Q : Exit → Act → World → Prop} {w : World} (u : List UInt8) (C : Array Value) (hC : C = #[strV u]) (hgd : o.guard = none) (s0 x0 : Operand)
    (ho : o.op = .call { callee := .builtin .append, args := #[s0, x0], argTypes := #[71, 71] }) {B : Nat} {v : Value} {l : List (List UInt8)} (hs : a.eval s0 = v) (hown : OwnT w B v l)
    (hx : a.eval x0 = .slice (some ⟨w.heap.size, 0, none⟩) 1 1) (hn : l.length ≤ 1000000) (hB : B ≤ w.heap.size)
    (h : ∀ v' w', OwnT w' B v' (l ++ [u]) → w.grownBy w' v.ownBlock → (v'.ownBlock = v.ownBlock ∨ ∃ k, v'.ownBlock = some k ∧ w.heap.size ≤ k) → wpList Tryd.prog ops Q rest (a.put o.dst v') w') :
    wpList Tryd.prog ops Q (o :: rest) a (w.alloc (.cells C 9)) := by
  subst hC
  refine wp_app1 w #[strV u] hgd s0 x0 _ ho B 9 _ 1 16 Tryd.underlying71 Tryd.infoS rfl (by omega) v _ _ hs hown hx rfl (t_one [u]) (by unfold maxLen; omega) (by omega) hB
    fun v' w' h1 h2 h3 => h v' w' ?_ h2 h3
  unfold OwnT
  rw [List.length_append, List.map_append]
  exact h1

set_option maxHeartbeats 2000000 in
theorem texts_any (v : Value) (vs : List Value) (ls : List (List UInt8)) (w : World) (h : Rd w 1 v ls.length vs) (hb : ∀ i (hi : i < vs.length) (hj : i < ls.length), RdB w vs[i] ls[i]) (hn : ls.length ≤ 1000000) :
    Calls Tryd.prog 40 #[v] w fun e w' => ∃ v', e = .returned v' ∧ OwnT w' w.heap.size v' ls ∧ w.grownBy w' none := by
  obtain ⟨hl, A, c, g, off, rfl, hnc, _, _, hA, hx⟩ := h
  have hl' : vs.length = ls.length := by omega
  have HA := Lib.hid hA
  have Hx : Hid (∀ k (hk : k < ls.length), ∃ A' c', w.cell? ⟨g, off + k, none⟩ = some (.slice A' ls[k].length c') ∧ RdB w (.slice A' ls[k].length c') ls[k]) := fun k hk => by
    have h1 := hb k (by omega) hk
    obtain ⟨A', c', e⟩ := h1.form
    refine ⟨A', c', ?_, by rw [← e]; exact h1⟩
    rw [hx k (by omega), List.getElem?_eq_getElem (by omega), e]
  clear hl hA hx hb hl'
  go_enter Tryd.func40, Tryd.ntmps40
  go_wp2
  go_loopw [3, 4] (fun u i wr => ∃ k : Nat, k ≤ ls.length ∧ i = .int .i64 k ∧ OwnT wr w.heap.size u (ls.take k) ∧ w.grownBy wr none) (fun _ i _ => ls.length - (intOf i).toNat)
  case atStart => exact ⟨0, by omega, rfl, by simpa using OwnT.nil _ _, gr_refl _ _⟩
  case round =>
    obtain ⟨k, hk, rfl, hown, hg⟩ := hrel
    have hz := hg.size
    by_cases hlt : k < ls.length
    · obtain ⟨A', c', hc', hr'⟩ := Hx.out k hlt
      have := HA.out (by omega)
      subst this
      have hc2 := hg.cell hc' (by simp)
      have hs := run_str (hr'.ext hg)
      generalize hu : ls[k] = u at *
      have Hu := Lib.hid hu
      have hlen : (ls.take k).length ≤ 1000000 := by rw [List.length_take]; omega
      clear hc' hr' hu
      go_wp2_with (at_builtin; refine wp_app1T u _ rfl rfl (.tmp 11) (.tmp 17) rfl rfl hown rfl hlen hz ?_; intro v1 w1 h1 g1 a1)
      have hlt1 := hown.lt
      go_roundw
      case rel => exact ⟨k + 1, by omega, by go_num, by rw [List.take_succ_eq_append_getElem hlt, Hu.out]; exact h1, own_gr hg g1 hlt1⟩
      case measure => simp [intOf]; omega
    · have e : ls.take k = ls := List.take_of_length_le (by omega)
      rw [e] at hown
      go_wp2
      go_ret
      exact ⟨_, rfl, hown, hg⟩

set_option maxHeartbeats 2000000 in
theorem differ_any (v v' : Value) (ls : List (List UInt8)) (w : World) (h : RdT w v ls) (h' : RdT w v' ls) (hn : ls.length ≤ 1000000) :
    Calls Tryd.prog 63 #[v, v'] w fun e w' => e = .returned (.int .i64 (-1)) ∧ w.grownBy w' none := by
  obtain ⟨A, c, rfl⟩ := h.form
  obtain ⟨A', c', rfl⟩ := h'.form
  obtain ⟨g, off, hnc, hA, hx⟩ := h.at_
  obtain ⟨g', off', hnc', hA', hx'⟩ := h'.at_
  have HA := Lib.hid hA
  have HA' := Lib.hid hA'
  have Hx := Lib.hid hx
  have Hx' := Lib.hid hx'
  clear h h' hA hA' hx hx'
  go_enter Tryd.func63, Tryd.ntmps63
  go_wp2
  go_loopw [5] (fun i wr => ∃ k : Nat, k ≤ ls.length ∧ i = .int .i64 k ∧ w.grownBy wr none) (fun i _ => ls.length - (intOf i).toNat)
  case atStart => exact ⟨0, by omega, rfl, gr_refl _ _⟩
  case round =>
    obtain ⟨k, hk, rfl, hg⟩ := hrel
    by_cases hlt : k < ls.length
    · have := HA.out (by omega)
      subst this
      have := HA'.out (by omega)
      subst this
      have c1 := hg.cell (Hx.out k hlt) (by simp)
      have c2 := hg.cell (Hx'.out k hlt) (by simp)
      unfold strV at c1 c2
      generalize ls[k] = u at *
      go_wp2_with fail
      go_quiet (fail)
      go_wp2
      go_roundw
      case rel => exact ⟨k + 1, by omega, by go_num, gr_none hg (gr_drewN _ _ _)⟩
      case measure => simp [intOf]; omega
    · go_wp2
      go_ret
      exact ⟨rfl, hg⟩

theorem eqTexts_true (v v' : Value) (ls : List (List UInt8)) (w : World) (h : RdT w v ls) (h' : RdT w v' ls) (hn : ls.length ≤ 1000000) :
    Calls Tryd.prog 42 #[v, v'] w fun e w' => e = .returned (.bool true) ∧ w.grownBy w' none := by
  obtain ⟨A, c, rfl⟩ := h.form
  obtain ⟨A', c', rfl⟩ := h'.form
  have Hd := Lib.hid (differ_any _ _ ls w h h' hn)
  clear h h'
  go_enter Tryd.func42, Tryd.ntmps42
  go_wp2_with (go_at_call 63; refine Hd.out.mono ?_; rintro e w1 ⟨rfl, g1⟩)
  go_ret
  exact ⟨rfl, g1⟩
end Go.Proofs.YtikgobndekgjcaaDoor
