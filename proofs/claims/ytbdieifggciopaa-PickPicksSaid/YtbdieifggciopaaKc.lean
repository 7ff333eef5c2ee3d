/-
  Pick: lists of vertices and of candidates in memory; the small functions.
-/
import Derived.Test.YtbdieifggciopaaRg
import Derived.Test.YtbdieifggciopaaUh
import Derived.Test.YtbdieifggciopaaKa
namespace Go.Proofs.Ytbdieifggciopaa
open Go.RowKit
set_option maxRecDepth 100000
set_option maxHeartbeats 400000

/-! vertices -/
theorem RdU.form {w : World} {v : Value} {l : List UInt32} (h : RdU w v l) : ∃ A c, v = .slice A l.length c := by obtain ⟨_, A, c, _, _, e, _⟩ := h; exact ⟨A, c, e⟩
theorem RdU.at_ {w : World} {A : Option Addr} {c : Nat} {l : List UInt32} (h : RdU w (.slice A l.length c) l) : ∃ g off, (0 < l.length → A = some ⟨g, off, none⟩) ∧ ∀ i (hi : i < l.length), w.cell? ⟨g, off + i, none⟩ = some (.int .u32 l[i].toNat) := by
  obtain ⟨_, _, _, g, off, e, hn, hc, _, hA, hx⟩ := h
  cases e
  refine ⟨g, off, fun h0 => hA (by omega), fun i hi => ?_⟩
  rw [hx i (by omega)]
  simp [encL, hi]
theorem Try.infoU32 : (Try.prog.info? 30).map (fun i => (i.zero, i.size, i.bytes)) = some (some (.int .u32 0), 1, 4) := by kernel_rfl
theorem u32_one (l : List UInt32) : ∀ u ∈ encL l, u.oneCell' = true := by
  intro u hu
  obtain ⟨x, _, rfl⟩ := List.mem_map.1 hu
  rfl
theorem encL_app (l m : List UInt32) : encL (l ++ m) = encL l ++ encL m := by simp [encL]
theorem ownU_app {w : World} {B : Nat} {v : Value} {l m : List UInt32} (h : Own w B 1 v (l.length + m.length) (encL l ++ encL m)) : OwnU w B v (l ++ m) := by
  show Own _ _ _ _ _ _; rw [List.length_append, encL_app]; exact h
/-- append(v, x...) of vertices. -/
theorem wp_appU {ops : Array Oper} {rest : List Oper} {o : Oper} {a : Act} {Q : Exit → Act → World → Prop} {w : World} (hgd : o.guard = none) (s0 x0 : Operand)
    (ho : o.op = .call { callee := .builtin .append, args := #[s0, x0], argTypes := #[26, 26] }) {B : Nat} {v x : Value} {l m : List UInt32} (hs : a.eval s0 = v) (hown : OwnU w B v l)
    (hx : a.eval x0 = x) (hr : RdU w x m) (hn : l.length + m.length ≤ 1000000000) (hB : B ≤ w.heap.size)
    (h : ∀ v' w', OwnU w' B v' (l ++ m) → w.grownBy w' v.ownBlock → (v'.ownBlock = v.ownBlock ∨ ∃ k, v'.ownBlock = some k ∧ w.heap.size ≤ k) → wpList Try.prog ops Q rest (a.put o.dst v') w') :
    wpList Try.prog ops Q (o :: rest) a w :=
  wp_app w hgd s0 x0 _ ho B 30 _ 1 4 Try.underlying26 Try.infoU32 rfl (by omega) v _ _ hs hown x _ _ hx hr (u32_one m) (by unfold maxLen; omega) (by omega) hB
    fun v' w' h1 h2 h3 => h v' w' (ownU_app h1) h2 h3
/-- append(v, x). -/
theorem wp_app1U {ops : Array Oper} {rest : List Oper} {o : Oper} {a : Act} {Q : Exit → Act → World → Prop} {w : World} (r : UInt32) (C : Array Value) (hC : C.toList = encL [r]) (hgd : o.guard = none) (s0 x0 : Operand)
    (ho : o.op = .call { callee := .builtin .append, args := #[s0, x0], argTypes := #[26, 26] }) {B : Nat} {v : Value} {l : List UInt32} (hs : a.eval s0 = v) (hown : OwnU w B v l)
    (g : Nat) (hx : a.eval x0 = .slice (some ⟨g, 0, none⟩) 1 1) (hg : g = w.heap.size) (hn : l.length ≤ 1000000000) (hB : B ≤ w.heap.size)
    (h : ∀ v' w', OwnU w' B v' (l ++ [r]) → w.grownBy w' v.ownBlock → (v'.ownBlock = v.ownBlock ∨ ∃ k, v'.ownBlock = some k ∧ w.heap.size ≤ k) → wpList Try.prog ops Q rest (a.put o.dst v') w') :
    wpList Try.prog ops Q (o :: rest) a (w.alloc (.cells C 30)) := by
  subst hg
  have hC3 : C.size = 1 := by rw [← Array.length_toList, hC]; rfl
  exact wp_app1 w C hgd s0 x0 _ ho B 30 _ 1 4 Try.underlying26 Try.infoU32 rfl (by omega) v _ _ hs hown hx hC3 (by rw [hC]; exact u32_one [r]) (by unfold maxLen; omega) (by omega) hB
    fun v' w' h1 h2 h3 => h v' w' (ownU_app (m := [r]) (by rw [← hC]; exact h1)) h2 h3
set_option maxHeartbeats 1000000 in
theorem eqU_any (v v' : Value) (l l' : List UInt32) (w : World) (h : RdU w v l) (h' : RdU w v' l') (hn : l.length ≤ 1000000000) (hn' : l'.length ≤ 1000000000) :
    Calls Try.prog 13 #[v, v'] w fun e w' => (∃ b, e = .returned (.bool b) ∧ (b = true ↔ l = l')) ∧ w.grownBy w' none := by
  obtain ⟨A, c, rfl⟩ := RdU.form h
  obtain ⟨A', c', rfl⟩ := RdU.form h'
  obtain ⟨g, off, hA, hcells⟩ := RdU.at_ h
  obtain ⟨g', off', hA', hcells'⟩ := RdU.at_ h'
  have HA := Lib.hid hA
  have HC := Lib.hid hcells
  have HA' := Lib.hid hA'
  have HC' := Lib.hid hcells'
  clear hA hcells hA' hcells' h h'
  by_cases hl : l.length = l'.length
  · have hb : ((l.length : Int) != (l'.length : Int)) = false := by rw [bne_eq_false_iff_eq]; omega
    have hl1 : l.length ≤ l'.length := by omega
    have hl2 : l'.length ≤ l.length := by omega
    clear hl
    go_enter Try.func13, Try.ntmps13
    go_wp2
    go_loopw [5] (fun i wr => ∃ k : Nat, k ≤ l.length ∧ i = .int .i64 k ∧ Hid (l.take k = l'.take k) ∧ w.grownBy wr none) (fun i _ => l.length - (intOf i).toNat)
    case atStart => exact ⟨0, by omega, rfl, Lib.hid (by simp), gr_refl _ _⟩
    case round =>
      obtain ⟨k, hk, rfl, hall, hg⟩ := hrel
      by_cases hlt : k < l.length
      · have hlt' : k < l'.length := by omega
        have := HA.out (by omega)
        subst this
        have := HA'.out (by omega)
        subst this
        have c0 := hg.cell (HC.out k hlt) (by simp)
        have d0 := hg.cell (HC'.out k hlt') (by simp)
        rcases hx : l[k] with xa
        rcases hy : l'[k] with ya
        rw [hx] at c0
        rw [hy] at d0
        by_cases e1 : l[k].toNat = l'[k].toNat
        · have b1 : ((l[k].toNat : Int) != (l'[k].toNat : Int)) = false := by rw [bne_eq_false_iff_eq]; omega
          have HN : Hid (l.take (k + 1) = l'.take (k + 1)) := by
            show _ = _
            rw [List.take_succ_eq_append_getElem hlt, List.take_succ_eq_append_getElem hlt', hall.out, UInt32.toNat_inj.1 e1]
          rw [hx, hy] at b1
          clear hx hy hall e1
          go_wp2_with fail
          go_quiet (fail)
          go_wp2
          go_roundw
          case rel => exact ⟨k + 1, by omega, by go_num, HN, gr_none hg (gr_drewN _ _ _)⟩
          case measure => simp [intOf]; omega
        · have b1 : ((l[k].toNat : Int) != (l'[k].toNat : Int)) = true := by rw [bne_iff_ne]; omega
          have HD : Hid (¬ l = l') := fun e => e1 (by subst e; rfl)
          rw [hx, hy] at b1
          clear hx hy hall e1
          go_wp2_with fail
          go_quiet (fail)
          go_wp2
          go_ret
          exact ⟨⟨_, rfl, ⟨(fun h => by cases h), fun h => absurd h HD.out⟩⟩, gr_none hg (gr_drewN _ _ _)⟩
      · obtain rfl : k = l.length := by omega
        have He : Hid (l = l') := by
          have := hall.out
          rw [List.take_length, List.take_of_length_le hl2] at this
          exact this
        go_wp2
        go_ret
        exact ⟨⟨_, rfl, ⟨fun _ => He.out, fun _ => rfl⟩⟩, hg⟩
  · have hb : ((l.length : Int) != (l'.length : Int)) = true := by rw [bne_iff_ne]; omega
    have Hd : Hid (¬ l = l') := fun e => hl (by rw [e])
    clear hl
    go_enter Try.func13, Try.ntmps13
    go_wp2
    go_ret
    exact ⟨⟨_, rfl, ⟨(fun h => by cases h), fun h => absurd h Hd.out⟩⟩, gr_refl _ _⟩
def BoolIs (e : Ending) (p : Prop) : Prop := ∃ b, e = .returned (.bool b) ∧ (b = true ↔ p)
theorem has_any (v : Value) (l : List UInt32) (x : UInt32) (w : World) (h : RdU w v l) (hn : l.length ≤ 1000000000) :
    Calls Try.prog 17 #[v, .int .u32 x.toNat] w fun e w' => BoolIs e (x ∈ l) ∧ w.grownBy w' none := by
  obtain ⟨A, c, rfl⟩ := RdU.form h
  obtain ⟨g, off, hA, hcells⟩ := RdU.at_ h
  have HA := Lib.hid hA
  have HC := Lib.hid hcells
  clear hA hcells h
  go_enter Try.func17, Try.ntmps17
  go_wp2
  go_loopw [5] (fun i wr => ∃ k : Nat, k ≤ l.length ∧ i = .int .i64 k ∧ Hid (x ∉ l.take k) ∧ w.grownBy wr none) (fun i _ => l.length - (intOf i).toNat)
  case atStart => exact ⟨0, by omega, rfl, Lib.hid (by simp), gr_refl _ _⟩
  case round =>
    obtain ⟨k, hk, rfl, hall, hg⟩ := hrel
    by_cases hlt : k < l.length
    · have := HA.out (by omega)
      subst this
      have c0 := hg.cell (HC.out k hlt) (by simp)
      by_cases e1 : l[k].toNat = x.toNat
      · have b1 : ((l[k].toNat : Int) == (x.toNat : Int)) = true := by simp; omega
        have HM : Hid (x ∈ l) := by show x ∈ l; rw [← UInt32.toNat_inj.1 e1]; exact List.getElem_mem hlt
        generalize l[k] = y at *
        clear e1 hall
        go_wp2
        go_ret
        exact ⟨⟨_, rfl, ⟨fun _ => HM.out, fun _ => rfl⟩⟩, hg⟩
      · have b1 : ((l[k].toNat : Int) == (x.toNat : Int)) = false := by simp; omega
        have HN : Hid (x ∉ l.take (k + 1)) := by
          show ¬ _
          rw [List.take_succ_eq_append_getElem hlt, List.mem_append, List.mem_singleton]
          rintro (h | h)
          · exact hall.out h
          · exact e1 (by rw [h])
        generalize l[k] = y at *
        clear e1 hall
        go_wp2
        go_roundw
        case rel => exact ⟨k + 1, by omega, by go_num, HN, hg⟩
        case measure => simp [intOf]; omega
    · obtain rfl : k = l.length := by omega
      have HN : Hid (x ∉ l) := by have := hall.out; rw [List.take_length] at this; exact this
      clear hall
      go_wp2
      go_ret
      exact ⟨⟨_, rfl, ⟨(fun h => by cases h), fun h => absurd h HN.out⟩⟩, hg⟩
/-! candidates -/
structure Cd where
  d : Dt
  s : Value
def Cd.enc (x : Cd) : List Value := [.int .u32 x.d.v.toNat, .int .u64 x.d.k.toNat, x.s]
theorem cd3 (x : Cd) : x.enc.length = 3 := rfl
/-- candidates in memory. -/
def RdC (w : World) (v : Value) (l : List Cd) : Prop := RdG Cd.enc 3 w v l ∧ ∀ x ∈ l, RdU w x.s x.d.near
theorem RdC.ext {w w' : World} {v : Value} {l : List Cd} (h : RdC w v l) (hg : w.grownBy w' none) : RdC w' v l := ⟨h.1.ext hg, fun x hx => (h.2 x hx).ext hg⟩
theorem RdC.form {w : World} {v : Value} {l : List Cd} (h : RdC w v l) : ∃ A c, v = .slice A l.length c := RdG.form h.1
theorem at3C {w wx : World} {g off : Nat} {l : List Cd} (hc : ∀ k (hk : k < l.length), ∀ j, j < 3 → w.cell? ⟨g, off + k * 3 + j, none⟩ = (l[k].enc)[j]?) (hg : w.grownBy wx none) {k : Nat} (hk : k < l.length) {a : UInt32} {b : UInt64} {n : List UInt32} {s : Value} (e : l[k] = ⟨⟨a, b, n⟩, s⟩) :
    wx.cell? ⟨g, off + k * 3, none⟩ = some (.int .u32 a.toNat) ∧ wx.cell? ⟨g, off + k * 3 + 1, none⟩ = some (.int .u64 b.toNat) ∧ wx.cell? ⟨g, off + k * 3 + 2, none⟩ = some s := by
  have h0 := hc k hk 0 (by omega)
  have h1 := hc k hk 1 (by omega)
  have h2 := hc k hk 2 (by omega)
  rw [e] at h0 h1 h2
  exact ⟨hg.cell h0 (by simp), hg.cell h1 (by simp), hg.cell h2 (by simp)⟩
theorem Try.infoCd : (Try.prog.info? 33).map (fun i => (i.zero, i.size, i.bytes)) = some (some (.agg #[.int .u32 0, .int .u64 0, .slice none 0 0]), 3, 40) := by kernel_rfl
def sumM (l : List Cd) : Nat := (l.map fun x => min x.d.near.length 3000).sum
theorem sumM_succ {l : List Cd} {k : Nat} (hk : k < l.length) : sumM (l.take (k + 1)) = sumM (l.take k) + min l[k].d.near.length 3000 := by
  unfold sumM
  rw [List.take_succ_eq_append_getElem hk, List.map_append, List.sum_append]; simp
theorem sumM_le (l : List Cd) : ∀ x ∈ l, min x.d.near.length 3000 ≤ sumM l := by
  induction l with
  | nil => intro x h; cases h
  | cons a r ih =>
    intro x hx
    have e : sumM (a :: r) = min a.d.near.length 3000 + sumM r := by simp [sumM]
    rw [e]
    rcases List.mem_cons.1 hx with rfl | h
    · omega
    · have := ih x h; omega
/-- not more than a statement goes through. -/
def Small (l : List Cd) : Prop := l.length ≤ 100 ∧ ∀ x ∈ l, x.d.near.length ≤ 2000
def LargeOut (e : Ending) (l : List Cd) : Prop := ∃ b, e = .returned (.bool b) ∧ (b = false → Small l)
set_option maxHeartbeats 1000000 in
theorem large_any (v : Value) (l : List Cd) (w : World) (h : RdC w v l) :
    Calls Try.prog 9 #[v] w fun e w' => LargeOut e l ∧ w.grownBy w' none := by
  have hmax : l.length ≤ maxLen := by obtain ⟨_, _, _, _, _, _, h1, h2, _⟩ := h.1; omega
  unfold maxLen at hmax
  obtain ⟨A, c, rfl⟩ := h.form
  obtain ⟨g, off, hA, _, hcells⟩ := h.1.at_ cd3
  have HA := Lib.hid hA
  have HC := Lib.hid hcells
  have HL := Lib.hid h.2
  clear hA hcells h
  go_enter Try.func9, Try.ntmps9
  go_wp2
  go_loopw [3, 4] (fun n i wr => ∃ (k : Nat) (m : Nat), k ≤ l.length ∧ i = .int .i64 k ∧ n = .int .i64 m ∧ m = l.length + sumM (l.take k) ∧ (k = 0 ∨ m ≤ 5000) ∧ w.grownBy wr none) (fun _ i _ => l.length - (intOf i).toNat)
  case atStart => exact ⟨0, l.length, by omega, rfl, rfl, by simp [sumM], .inl rfl, gr_refl _ _⟩
  case round =>
    obtain ⟨k, m, hk, rfl, rfl, hm, hm2, hg⟩ := hrel
    have HM := Lib.hid hm
    clear hm
    by_cases hin : k < l.length ∧ m ≤ 2000
    · obtain ⟨hlt, h6⟩ := hin
      have := HA.out (by omega)
      subst this
      have HS := Lib.hid (sumM_succ hlt)
      rcases hx : l[k] with ⟨⟨xa, xb, xl⟩, xs⟩
      obtain ⟨-, -, c2⟩ := at3C HC.out hg hlt hx
      have HXL : Hid (RdU w xs xl) := by have := HL.out _ (List.getElem_mem hlt); rw [hx] at this; exact this
      have Hx := Lib.hid hx
      obtain ⟨A2, c2', rfl⟩ := RdU.form HXL.out
      have hxb : xl.length ≤ 9223372036854775807 := by obtain ⟨_, _, _, _, _, _, h1, h2, _⟩ := HXL.out; unfold maxLen at h2; omega
      clear hx hm2
      by_cases h1000 : xl.length ≤ 3000
      · have HQ : Hid (m + xl.length = l.length + sumM (l.take (k + 1))) := by show _ = _; rw [HS.out, Hx.out, HM.out]; simp only []; omega
        go_wp2
        go_roundw
        case rel => exact ⟨k + 1, m + xl.length, by omega, by go_num, by go_num, HQ.out, .inr (by omega), hg⟩
        case measure => simp [intOf]; omega
      · have HQ : Hid (m + 3000 = l.length + sumM (l.take (k + 1))) := by show _ = _; rw [HS.out, Hx.out, HM.out]; simp only []; omega
        go_wp2
        go_roundw
        case rel => exact ⟨k + 1, m + 3000, by omega, by go_num, by go_num, HQ.out, .inr (by omega), hg⟩
        case measure => simp [intOf]; omega
    · by_cases h6 : m ≤ 2000
      · have hke : k = l.length := by omega
        have HE : Hid (l.length ≤ 100 → Small l) := fun h => by
          have e := HM.out
          rw [hke, List.take_length] at e
          exact ⟨h, fun x hx => by have := sumM_le l x hx; omega⟩
        clear hin hm2
        subst hke
        by_cases h100 : l.length ≤ 100
        · have hz : ¬ (100 : Int) < (l.length : Int) := by omega
          go_wp2
          all_goals
            go_ret
            exact ⟨⟨_, rfl, fun _ => HE.out h100⟩, hg⟩
        · have hz : (100 : Int) < (l.length : Int) := by omega
          go_wp2
          all_goals
            go_ret
            exact ⟨⟨_, rfl, fun h => by first | cases h | (simp at h; done) | (simp at h; omega)⟩, hg⟩
      · have hmb : m ≤ 9223372036854775807 := by
          rcases hm2 with rfl | h
          · have e := HM.out
            simp [sumM] at e
            omega
          · omega
        clear hin hm2
        go_wp2
        all_goals
          go_ret
          exact ⟨⟨_, rfl, fun h => by first | cases h | (simp at h; done) | (simp at h; omega)⟩, hg⟩
end Go.Proofs.Ytbdieifggciopaa
