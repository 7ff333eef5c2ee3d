/-
  octet: numbers as bytes: what each function of package octet, and of its reference, answers.
-/
import Derived.Test.YtipankjajdpiiaaGreatRg
import Derived.Test.YtipankjajdpiiaaGreatPfP
import Derived.Deep.RegionHeld3
namespace Go.Proofs.YtipankjajdpiiaaGreat
open Go.RowKit
set_option maxRecDepth 100000
set_option maxHeartbeats 400000

theorem Tryz.info5 : (Tryz.prog.info? 5).map (fun i => (i.zero, i.size, i.bytes)) = some (some (.int .u8 0), 1, 1) := by kernel_rfl

/-- a row of the call's own that holds bytes. -/
def OwnB (w : World) (B : Nat) (v : Value) (l : List UInt8) : Prop := Own w B 1 v l.length (l.map u8v)
/-- a slice that reads as bytes. -/
def RdB (w : World) (v : Value) (l : List UInt8) : Prop := Rd w 1 v l.length (l.map u8v)
theorem OwnB.rd {w : World} {B : Nat} {v : Value} {l : List UInt8} (h : OwnB w B v l) : RdB w v l := Own.rd h
theorem OwnB.nil (w : World) (B : Nat) : OwnB w B (.slice none 0 0) [] := Own.nil _ _ _
theorem RdB.cut {w : World} {A : Option Addr} {c : Nat} {l : List UInt8} (h : RdB w (.slice A l.length c) l) {i j : Nat} (hij : i ≤ j) (hj : j ≤ l.length) :
    RdB w (.slice (cutA A c i 1) (j - i) (c - i)) ((l.take j).drop i) := by
  have := Rd.cut h hij hj
  unfold RdB
  have e : ((l.take j).drop i).length = j - i := by simp; omega
  rw [e, List.map_drop, List.map_take]
  simpa using this
theorem RdB.drop {w : World} {A : Option Addr} {c : Nat} {l : List UInt8} (h : RdB w (.slice A l.length c) l) {i : Nat} (hi : i ≤ l.length) :
    RdB w (.slice (cutA A c i 1) (l.length - i) (c - i)) (l.drop i) := by
  simpa using h.cut hi (Nat.le_refl _)
theorem RdB.ext {w w' : World} {v : Value} {l : List UInt8} (h : RdB w v l) (hg : w.grownBy w' none) : RdB w' v l := Rd.ext h hg
theorem OwnB.ext {w w' : World} {B : Nat} {v : Value} {l : List UInt8} (h : OwnB w B v l) (hg : w.grownBy w' none) : OwnB w' B v l := Own.ext h hg
theorem RdB.form {w : World} {v : Value} {l : List UInt8} (h : RdB w v l) : ∃ A c, v = .slice A l.length c := by
  obtain ⟨_, A, c, _, _, e, _⟩ := h; exact ⟨A, c, e⟩
theorem RdB.alloc {w : World} {v : Value} {l : List UInt8} (h : RdB w v l) (o : Obj) : RdB (w.alloc o) v l := Rd.alloc h o
/-- string(v). -/
theorem run_str {w : World} {v : Value} {l : List UInt8} (h : RdB w v l) : (convert 40 9 v).run Tryz.prog w = .ok (.string ⟨l.toArray⟩) w := by
  obtain ⟨hl, A, c, g, off, rfl, hn, hc, hA0, hA, hx⟩ := h
  rw [run_convert_bytes_string w _ _ _ _ _ _ Tryz.underlying40 Tryz.underlying5 Tryz.underlying9]
  cases A with
  | none =>
    have h0 := hA0 rfl
    obtain rfl : l = [] := List.eq_nil_of_length_eq_zero (by omega)
    simp [Conv.bytesToString]
    rfl
  | some a =>
    have key : ∀ n, n ≤ l.length → (loadCells a l.length).run Tryz.prog w = .ok (l.map u8v).toArray w := fun n _ => by
      have := run_loadCells_list (P := Tryz.prog) w a (l.map u8v) (fun j u hj => by
        have hjl : j < (l.map u8v).length := (List.getElem?_eq_some_iff.1 hj).1
        have h0 : j < l.length := by simpa using hjl
        have := hA (by omega)
        cases this
        rw [Addr.add_lit, hx j (by omega), hj])
      simpa using this
    have e2 : l.map u8v = (l.map fun b => (b.toNat : Int)).map (Value.int .u8) := by simp [u8v]
    have hld := key l.length (Nat.le_refl _)
    rw [e2] at hld
    rw [run_bytesToString w a l.length c _ hld, foldl_push_bytes]
    have hid : ((fun n : Int => UInt8.ofNat n.toNat) ∘ fun b : UInt8 => (b.toNat : Int)) = id := by funext b; simp
    simp [ByteArray.empty, ByteArray.emptyWithCapacity, hid]
    rfl
/-- []byte(s). -/
theorem wp_bytes {ops : Array Oper} {rest : List Oper} {o : Oper} {a : Act} {Q : Exit → Act → World → Prop} {w : World} (hgd : o.guard = none) (x0 : Operand) (ho : o.op = .convert 9 40 x0)
    (l : List UInt8) (hx : a.eval x0 = .string ⟨l.toArray⟩) (hn : l.length ≤ maxLen)
    (h : ∀ v' w', OwnB w' w.heap.size v' l → w.grownBy w' none → (∃ c, v' = .slice (some ⟨w.heap.size, 0, none⟩) l.length c) → wpList Tryz.prog ops Q rest (a.put o.dst v') w') : wpList Tryz.prog ops Q (o :: rest) a w := by
  refine wpList_plain hgd fun K hK => ?_
  have hrun := run_bytes_of_string (P := Tryz.prog) w 9 40 5 ⟨l.toArray⟩ Tryz.underlying9 Tryz.underlying40 Tryz.underlying5
  have hsz : (⟨l.toArray⟩ : ByteArray).size = l.length := by simp [ByteArray.size]
  rw [hsz] at hrun
  have hcap := grownCap_ge w l.length 0 5
  have hmax := grownCap_le_maxLen w l.length 0 5 hn
  unfold Oper.wp execOp
  simp only [ho, Sem.run_bind, Sem.run_pure, Result.andThen_ok, hx, hrun]
  refine hK _ _ (h _ _ ?_ ?_ ⟨_, rfl⟩)
  · have hs : (bytesRow ⟨l.toArray⟩ (grownCap w l.length 0 5)).size = grownCap w l.length 0 5 := by
      simp [bytesRow, ByteArray.size]; omega
    have e : (bytesRow ⟨l.toArray⟩ (grownCap w l.length 0 5)).toList.take (l.length * 1) = l.map u8v := by
      simp [bytesRow, u8v]
    generalize bytesRow ⟨l.toArray⟩ (grownCap w l.length 0 5) = R at hs e
    have := own_lit w.drew w.heap.size 1 l.length (grownCap w l.length 0 5) R 5 (R.size, R.size + 1) (.inl (Nat.le_refl _)) (by omega) hcap hmax (Nat.le_refl _)
    rw [e] at this
    exact this
  · exact gr_trans (gr_drew w none) (gr_alloc _ _ none) (.inl rfl)
theorem u8_one (l : List UInt8) : ∀ u ∈ l.map u8v, u.oneCell' = true := by
  intro u hu
  obtain ⟨_, _, rfl⟩ := List.mem_map.1 hu
  rfl

theorem own_app {w : World} {B : Nat} {v : Value} {l m : List UInt8} (h : Own w B 1 v (l.length + m.length) (l.map u8v ++ m.map u8v)) : OwnB w B v (l ++ m) := by
  unfold OwnB; simpa using h

/-- append(v, x) of a byte. -/
theorem wp_app1B {ops : Array Oper} {rest : List Oper} {o : Oper} {a : Act} {Q : Exit → Act → World → Prop} {w : World} (u : UInt8) (N : Int) (hu : N = (u.toNat : Int)) (hgd : o.guard = none) (s0 x0 : Operand)
    (ho : o.op = .call { callee := .builtin .append, args := #[s0, x0], argTypes := #[40, 40] }) {B : Nat} {v : Value} {l : List UInt8} (hs : a.eval s0 = v) (hown : OwnB w B v l)
    (hx : a.eval x0 = .slice (some ⟨w.heap.size, 0, none⟩) 1 1) (hn : l.length ≤ 70000000000000) (hB : B ≤ w.heap.size)
    (h : ∀ v' w', OwnB w' B v' (l ++ [u]) → w.grownBy w' v.ownBlock → (v'.ownBlock = v.ownBlock ∨ ∃ k, v'.ownBlock = some k ∧ w.heap.size ≤ k) → wpList Tryz.prog ops Q rest (a.put o.dst v') w') :
    wpList Tryz.prog ops Q (o :: rest) a (w.alloc (.cells #[.int .u8 N] 5)) := by
  subst hu
  exact wp_app1 w #[.int .u8 u.toNat] hgd s0 x0 _ ho B 5 _ 1 1 Tryz.underlying40 Tryz.info5 rfl (by omega) v _ _ hs hown hx rfl (by simp; rfl) (by unfold maxLen; omega) (by omega) hB
    fun v' w' h1 h2 h3 => h v' w' (own_app (m := [u]) h1) h2 h3
/-- append(v, x...) of bytes. -/
theorem wp_appB {ops : Array Oper} {rest : List Oper} {o : Oper} {a : Act} {Q : Exit → Act → World → Prop} {w : World} (hgd : o.guard = none) (s0 x0 : Operand)
    (ho : o.op = .call { callee := .builtin .append, args := #[s0, x0], argTypes := #[40, 40] }) {B : Nat} {v x : Value} {l m : List UInt8} (hs : a.eval s0 = v) (hown : OwnB w B v l)
    (hx : a.eval x0 = x) (hr : RdB w x m) (hn : l.length + m.length ≤ 70000000000000) (hB : B ≤ w.heap.size)
    (h : ∀ v' w', OwnB w' B v' (l ++ m) → w.grownBy w' v.ownBlock → (v'.ownBlock = v.ownBlock ∨ ∃ k, v'.ownBlock = some k ∧ w.heap.size ≤ k) → wpList Tryz.prog ops Q rest (a.put o.dst v') w') :
    wpList Tryz.prog ops Q (o :: rest) a w :=
  wp_app w hgd s0 x0 _ ho B 5 _ 1 1 Tryz.underlying40 Tryz.info5 rfl (by omega) v _ _ hs hown x _ _ hx hr (u8_one m) (by unfold maxLen; omega) (by omega) hB
    fun v' w' h1 h2 h3 => h v' w' (own_app h1) h2 h3

theorem own_empty (w : World) (B : Nat) (hB : B ≤ w.heap.size) : OwnB (w.alloc (.cells #[] 5)) B (.slice (some ⟨w.heap.size, 0, none⟩) 0 0) [] :=
  own_lit w B 1 0 0 #[] _ (0, 0) (.inl (by simp)) rfl (Nat.le_refl _) (Nat.zero_le _) hB

/-- where the row lies behind an append: the old one, or a new one. -/
def AtOld (w : World) (v v' : Value) : Prop := v'.ownBlock = v.ownBlock ∨ ∃ k, v'.ownBlock = some k ∧ w.heap.size ≤ k
theorem at_trans {w w1 : World} {v v1 v2 : Value} (h : AtOld w v v1) (hs : w.heap.size ≤ w1.heap.size) (k : AtOld w1 v1 v2) : AtOld w v v2 := by
  rcases k with k | ⟨g, k, hg⟩
  · rcases h with h | ⟨g, h, hg⟩
    · exact .inl (k.trans h)
    · exact .inr ⟨g, k.trans h, hg⟩
  · exact .inr ⟨g, k, by omega⟩
theorem gr_at {w w1 w2 : World} {v v1 : Value} (h : w.grownBy w1 v.ownBlock) (ha : AtOld w v v1) (k : w1.grownBy w2 v1.ownBlock) : w.grownBy w2 v.ownBlock := by
  rcases ha with e | ⟨g, e, hg⟩
  · exact gr_trans h k (.inl e)
  · exact gr_trans h k (.inr fun g' e' => by rw [e] at e'; cases e'; exact hg)

theorem byteAt_val (x k : Nat) : ((x : Int) / 2 ^ (8 * k) % 256) = ((byteAt x k).toNat : Int) := by
  have : (byteAt x k).toNat = x / 2 ^ (8 * k) % 256 := by simp [byteAt]
  rw [this]; simp

theorem put64 (x size : Nat) (v : Value) (l : List UInt8) (B : Nat) (w : World) (hx : x < 2 ^ 64) (hs : size ≤ 8) (hn : l.length ≤ 1000000000) (hB : B ≤ w.heap.size) (hown : OwnB w B v l) :
    Calls Tryz.prog 128 #[v, .int .u64 x, .int .i64 size] w fun e w' => ∃ v', e = .returned v' ∧ OwnB w' B v' (l ++ le x size) ∧ w.grownBy w' v.ownBlock ∧ AtOld w v v' := by
  have Hx := Lib.hid hx
  clear hx
  go_enter Tryz.func128, Tryz.ntmps128
  go_wp2
  go_loopw [0, 7, 9] (fun u _ i wr => ∃ k : Nat, k ≤ size ∧ i = .int .i64 k ∧ OwnB wr B u (l ++ le x k) ∧ w.grownBy wr v.ownBlock ∧ AtOld w v u)
    (fun _ _ i _ => size - (intOf i).toNat)
  case atStart => exact ⟨0, by omega, rfl, by simpa [le] using hown, gr_refl _ _, .inl rfl⟩
  case round =>
    obtain ⟨k, hk, rfl, hw, hb, hv⟩ := hrel
    have hsz := hb.size
    go_wp2_with (at_builtin; refine wp_app1B (byteAt x k) _ (byteAt_val x k) rfl (.tmp 12) (.tmp 18) rfl rfl hw rfl ?_ ?_ ?_)
    · simp [length_le]; omega
    · omega
    · intro v1 w1 h1 h2 h3
      go_wp2
      go_roundw
      case rel => exact ⟨k + 1, by omega, by go_num, by simpa [le_succ] using h1, gr_at hb hv h2, at_trans hv hsz h3⟩
      case measure => simp [intOf]; omega
    · have : k = size := by omega
      subst this
      go_wp2
      go_ret
      exact ⟨_, rfl, hw, hb, hv⟩

theorem put64i (S X : Int) (size x : Nat) (hS : S = (size : Int)) (hX : X = (x : Int)) (v : Value) (l : List UInt8) (B : Nat) (w : World) (hx : x < 2 ^ 64) (hs : size ≤ 8) (hn : l.length ≤ 1000000000) (hB : B ≤ w.heap.size) (hown : OwnB w B v l) :
    Calls Tryz.prog 128 #[v, .int .u64 X, .int .i64 S] w fun e w' => ∃ v', e = .returned v' ∧ OwnB w' B v' (l ++ le x size) ∧ w.grownBy w' v.ownBlock ∧ AtOld w v v' := by
  subst hS hX; exact put64 x size v l B w hx hs hn hB hown


theorem OwnB.drew {w : World} {B : Nat} {v : Value} {l : List UInt8} (h : OwnB w B v l) : OwnB w.drew B v l := h
theorem OwnB.mono {w : World} {B B' : Nat} {v : Value} {l : List UInt8} (h : OwnB w B v l) (hB : B' ≤ B) : OwnB w B' v l := Own.mono h hB
theorem put64b (S X : Int) (size x : Nat) (hS : S = (size : Int)) (hX : X = (x : Int)) (v : Value) (l : List UInt8) (B : Nat) (W w : World) (hb : Below B W w) (hB : B ≤ W.heap.size) (hx : x < 2 ^ 64) (hown : OwnB w B v l) (hs : size ≤ 8) (hn : l.length ≤ 1000000000) :
    Calls Tryz.prog 128 #[v, .int .u64 X, .int .i64 S] w fun e w' => ∃ v', e = .returned v' ∧ OwnB w' B v' (l ++ le x size) ∧ Below B W w' :=
  have hB' : B ≤ w.heap.size := Nat.le_trans hB hb.size
  (put64i S X size x hS hX v l B w hx hs hn hB' hown).mono fun _ _ ⟨v', e, h, g, _⟩ => ⟨v', e, h, hb.trans (gr_below g hB' (fun k hk => Own.lt hown k hk))⟩


def intL (xs : List Int) : List Value := xs.map (Value.int .i64)
theorem not_mem_take_succ {α : Type} {l : List α} {x : α} {k : Nat} (hk : k < l.length) (h : x ∉ l.take k) (hx : ¬ x = l[k]) : x ∉ l.take (k + 1) := by
  rw [List.take_succ_eq_append_getElem hk, List.mem_append]
  rintro (h' | h')
  · exact h h'
  · exact hx (by simpa using h')
/-- slices.Index at []int. -/
def idxOf (x : Int) : List Int → Int
  | [] => -1
  | y :: ys => if x = y then 0 else (if idxOf x ys < 0 then -1 else idxOf x ys + 1)

theorem index_any (v : Value) (xs : List Int) (x : Int) (w : World) (h : Rd w 1 v xs.length (intL xs)) (hn : xs.length ≤ 1000000000) :
    Calls Tryz.prog 110 #[v, .int .i64 x] w fun e w' => (∃ k : Int, e = .returned (.int .i64 k) ∧ (decide (0 ≤ k) = xs.contains x)) ∧ w = w' := by
  obtain ⟨hl, A, c, g, off, rfl, hnc, hc, _, hA, hx⟩ := h
  go_enter Tryz.func110, Tryz.ntmps110
  have Hl := Lib.hid hl
  clear hl
  go_wp2
  go_loop [5, 8] (fun _ i => ∃ k : Nat, k ≤ xs.length ∧ i = .int .i64 k ∧ x ∉ xs.take k) (fun _ i => xs.length - (intOf i).toNat)
  case atStart => exact ⟨0, by omega, rfl, by simp⟩
  case round =>
    obtain ⟨k, hk, rfl, hno⟩ := hrel
    have Hno := Lib.hid hno
    clear hno
    by_cases hlt : k < xs.length
    · have := hA (by omega)
      subst this
      have hcell : w.cell? ⟨g, off + k, none⟩ = some (.int .i64 xs[k]) := by rw [hx k (by omega)]; simp [intL, hlt]
      clear hx
      by_cases hxk : x = xs[k]
      · have hxk' : (x == xs[k]) = true := by simpa using hxk
        have Hxk := Lib.hid hxk
        clear hxk
        go_wp2
        go_ret
        exact ⟨⟨k, rfl, by simp [Hxk.out]⟩, rfl⟩
      · have hxk' : (x == xs[k]) = false := by simpa using hxk
        have Hxk := Lib.hid hxk
        clear hxk
        go_wp2
        go_round
        case rel => exact ⟨k + 1, by omega, by go_num, not_mem_take_succ hlt Hno.out Hxk.out⟩
        case measure => simp [intOf]; omega
    · have : k = xs.length := by omega
      subst this
      go_wp2
      go_ret
      have := Hno.out
      exact ⟨⟨_, rfl, by simpa using this⟩, rfl⟩

/-- slices.Contains at []int. -/
def memI (xs : List Int) (x : Int) : Bool := xs.contains x
theorem contains_any (v : Value) (xs : List Int) (x : Int) (w : World) (h : Rd w 1 v xs.length (intL xs)) (hn : xs.length ≤ 1000000000) :
    Calls Tryz.prog 72 #[v, .int .i64 x] w fun e w' => e = .returned (.bool (memI xs x)) ∧ w = w' := by
  go_enter Tryz.func72, Tryz.ntmps72
  go_wp2_with (go_at_call 110; refine (index_any v xs x _ h hn).mono ?_; rintro e w' ⟨⟨k, rfl, hk⟩, rfl⟩; have Hk := Lib.hid hk; clear hk)
  go_ret
  exact ⟨by rw [memI, ← Hk.out]; rfl, rfl⟩

/-- octet.sized -/
def szd (n : Int) : Bool := memI [1, 2, 4, 8] n
theorem szd_iff (n : Int) : szd n = true ↔ n = 1 ∨ n = 2 ∨ n = 4 ∨ n = 8 := by simp [szd, memI]

theorem sized_any (n : Int) (w : World) :
    Calls Tryz.prog 127 #[.int .i64 n] w fun e w' => e = .returned (.bool (szd n)) ∧ w.grownBy w' none := by
  go_enter Tryz.func127, Tryz.ntmps127
  go_wp2_with (go_at_call 72; refine (contains_any _ [1, 2, 4, 8] n _ (rd_lit w 1 4 4 _ _ rfl (Nat.le_refl _) (by unfold maxLen; omega)) (by simp)).mono ?_; rintro e w' ⟨rfl, rfl⟩)
  go_ret
  exact ⟨rfl, gr_alloc _ _ _⟩

theorem cloneB (v : Value) (l : List UInt8) (w : World) (h : RdB w v l) (hn : l.length ≤ 1000000000) :
    Calls Tryz.prog 42 #[v] w fun e w' => ∃ v', e = .returned v' ∧ OwnB w' w.heap.size v' l ∧ w.grownBy w' none := by
  have h0 := h
  obtain ⟨hl, A, c, g, off, rfl, hnc, hc, hA0, hA, hx⟩ := h
  clear hl hx
  have H0 := Lib.hid h0
  clear h0
  cases A with
  | none =>
    have hc0 := hA0 rfl
    have hnil := List.eq_nil_of_length_eq_zero (show l.length = 0 by omega)
    subst hc0 hnil
    have he : ∀ w, (binOp .eql 40 (.slice none 0 0) (.slice none 0 0)).run Tryz.prog w = .ok (.bool true) w := fun w => by kernel_rfl
    go_enter Tryz.func42, Tryz.ntmps42
    go_wp2
    go_ret
    exact ⟨_, rfl, OwnB.nil _ _, gr_refl _ _⟩
  | some a =>
    have he : ∀ (n : Nat) w, (binOp .eql 40 (.slice (some a) n c) (.slice none 0 0)).run Tryz.prog w = .ok (.bool false) w := fun n w => by kernel_rfl
    go_enter Tryz.func42, Tryz.ntmps42
    go_wp2_with (at_builtin; refine wp_appB (m := l) (l := []) rfl (.tmp 5) (.tmp 6) rfl rfl (own_empty _ _ (Nat.le_refl _)) rfl (Rd.alloc H0.out _) (by simp; omega) (by simp) ?_)
    intro v' w' h1 h2 h3
    go_wp2
    go_ret
    exact ⟨_, rfl, by simpa using h1, gr_trans (gr_alloc _ _ _) h2 (.inr (fun g e => by simp [Value.ownBlock] at e; omega))⟩

theorem RdB.cap {w : World} {A : Option Addr} {c : Nat} {l : List UInt8} (h : RdB w (.slice A l.length c) l) : l.length ≤ c := by
  obtain ⟨_, _, _, _, _, e, hn, _⟩ := h; cases e; exact hn
/-- a byte of an owned slice, and a store of one. -/
theorem OwnB.at_ {w : World} {B n c : Nat} {A : Option Addr} {b : List UInt8} (h : OwnB w B (.slice A n c) b) {k : Nat} (hk : k < b.length) :
    ∃ g off, A = some ⟨g, off, none⟩ ∧ B ≤ g ∧ n = b.length ∧ n ≤ c ∧ w.cell? ⟨g, off + k, none⟩ = some (.int .u8 b[k].toNat) ∧ w.frozen? ⟨g, off + k, none⟩ = false ∧
      ∀ u : UInt8, OwnB (w.setCell ⟨g, off + k, none⟩ (.int .u8 u.toNat)) B (.slice A n c) (b.set k u) := by
  have h0 := h
  obtain ⟨hl, A', c', g, off, e, hn, hc, hA0, hA, hB, hx, hf⟩ := h
  cases e
  have hA' := hA (by omega)
  subst hA'
  refine ⟨g, off, rfl, hB _ rfl, rfl, hn, ?_, (hf k (by omega)).2, fun u => ?_⟩
  · rw [hx k (by omega), List.getElem?_map, List.getElem?_eq_getElem hk]
    rfl
  · have s := Own.set rfl h0 (j := k) (by omega) (.int .u8 u.toNat)
    unfold OwnB
    rw [List.length_set, List.map_set]
    exact s
theorem OwnB.cap {w : World} {B n c : Nat} {A : Option Addr} {b : List UInt8} (h : OwnB w B (.slice A n c) b) : n ≤ c ∧ n = b.length := by
  obtain ⟨_, _, _, _, _, e, hn, _⟩ := h; cases e; exact ⟨hn, rfl⟩

theorem RdB.take {w : World} {A : Option Addr} {n c : Nat} {b : List UInt8} (h : RdB w (.slice A n c) b) {k : Nat} (hk : k ≤ b.length) : RdB w (.slice A k c) (b.take k) := by
  obtain ⟨hl, A', c', g, off, e, hn, hc, hA0, hA, hx⟩ := h
  cases e
  have hl' : (b.take k).length = k := List.length_take_of_le hk
  unfold RdB
  rw [hl']
  refine ⟨by simp; omega, _, _, g, off, rfl, by omega, hc, hA0, hA, fun j hj => ?_⟩
  rw [hx j (by omega), List.map_take, List.getElem?_take, if_pos (by omega)]

end Go.Proofs.YtipankjajdpiiaaGreat

/- octet, the second part: take, Get, Put, the bytes of an edge. -/
namespace Go.Proofs.YtipankjajdpiiaaGreat
open Go.RowKit
set_option maxRecDepth 100000
set_option maxHeartbeats 400000

theorem put_any (x size : Nat) (v : Value) (l : List UInt8) (w : World) (hx : x < 2 ^ 64) (hs : size = 1 ∨ size = 2 ∨ size = 4 ∨ size = 8) (hn : l.length ≤ 1000000000) (h : RdB w v l) :
    Calls Tryz.prog 106 #[v, .int .u64 x, .int .i64 size] w fun e w' => ∃ v', e = .returned v' ∧ OwnB w' w.heap.size v' (l ++ le x size) ∧ w.grownBy w' none := by
  have Hs : Hid (szd size = true) := (szd_iff _).2 (by omega)
  have hs8 : size ≤ 8 := by omega
  have Hx := Lib.hid hx
  clear hs hx
  go_enter Tryz.func106, Tryz.ntmps106
  go_wp2_with (go_at_call 42; refine (cloneB v l _ h hn).mono ?_; rintro e w1 ⟨v1, rfl, h1, g1⟩)
  go_wp2_with (go_at_call 127; refine (sized_any _ _).mono ?_; rintro e w2 ⟨rfl, g2⟩; rw [Hs.out])
  have h2 : OwnB w2 w.heap.size v1 l := h1.ext g2
  have hB : w.heap.size ≤ w2.heap.size := Nat.le_trans g1.size g2.size
  refine (put64 x size v1 l w.heap.size _ Hx.out hs8 hn hB h2).mono ?_
  rintro e w3 ⟨v3, rfl, h3, g3, a3⟩
  go_wp2
  go_ret
  exact ⟨_, rfl, h3, gr_trans (gr_none g1 g2) g3 (.inr fun k hk => Own.lt h2 k hk)⟩

theorem take64 (size : Nat) (v : Value) (l : List UInt8) (w : World) (hs : size ≤ 8) (hn : size ≤ l.length) (hl : l.length ≤ 1000000000) (h : RdB w v l) :
    Calls Tryz.prog 145 #[v, .int .i64 size] w fun e w' => ∃ r, e = .returned (.tuple #[.int .u64 (rdN (l.take size)), r]) ∧ (∀ W, RdB W v l → RdB W r (l.drop size)) ∧ w.grownBy w' none := by
  obtain ⟨hle, A, c, g, off, rfl, hnc, hc, hA0, hA, hx⟩ := h
  go_enter Tryz.func145, Tryz.ntmps145
  clear hle
  go_wp2
  go_loop [4, 6, 8] (fun x _ i => ∃ k : Nat, k ≤ size ∧ i = .int .i64 k ∧ x = .int .u64 (rdN (l.take k))) (fun _ _ i => size - (intOf i).toNat)
  case atStart => exact ⟨0, by omega, rfl, by simp [rdN]⟩
  case round =>
    obtain ⟨k, hk, rfl, rfl⟩ := hrel
    by_cases hlt : k < size
    · have := hA (by omega)
      subst this
      have hcell : w.cell? ⟨g, off + k, none⟩ = some (.int .u8 l[k].toNat) := by rw [hx k (by omega)]; simp [u8v, show k < l.length by omega]
      clear hx
      have hkl : k < l.length := by omega
      go_wp2
      go_round
      case rel => exact ⟨k + 1, by omega, by go_num, by rw [or64 (rdN_take_lt l k) (by have := l[k].toNat_lt; omega) (by omega), rdN_take_succ hkl]⟩
      case measure => simp [intOf]; omega
    · have : k = size := by omega
      subst this
      go_wp2_with fail
      go_quiet (fail)
      have H2 : Hid (∀ W, RdB W (.slice A l.length c) l → RdB W (.slice (cutA A c k 1) (l.length - k) (c - k)) (l.drop k)) := fun W h => h.drop hn
      go_wp2
      go_ret2
      exact ⟨_, rfl, H2.out, gr_drewN _ _ _⟩

theorem get_any (at_ size : Nat) (v : Value) (l : List UInt8) (w : World) (hs : size = 1 ∨ size = 2 ∨ size = 4 ∨ size = 8) (hn : at_ + size ≤ l.length) (hl : l.length ≤ 1000000000) (h : RdB w v l) :
    Calls Tryz.prog 126 #[v, .int .i64 at_, .int .i64 size] w fun e w' => e = .returned (.tuple #[.int .u64 (rdN ((l.drop at_).take size)), .int .i64 0]) ∧ w.grownBy w' none := by
  have H0 := Lib.hid h
  obtain ⟨hle, A, c, g, off, rfl, hnc, hc, hA0, hA, hx⟩ := h
  have Hs : Hid (szd size = true) := (szd_iff _).2 (by omega)
  have hs8 : size ≤ 8 := by omega
  have H1 := Lib.hid (H0.out.drop (i := at_) (by omega))
  clear hs hle hx
  go_enter Tryz.func126, Tryz.ntmps126
  go_wp2_with (first | (go_at_call 127; refine (sized_any _ _).mono ?_; rintro e w2 ⟨rfl, g2⟩; rw [Hs.out]) | (go_at_call 145; refine (take64 size _ (l.drop at_) _ hs8 (by simp; omega) (by simp; omega) (H1.out.ext g2)).mono ?_; rintro e w3 ⟨r, rfl, h3, g3⟩))
  go_ret2
  exact ⟨rfl, gr_none g2 g3⟩

theorem put_i (S X : Int) (size x : Nat) (hS : S = (size : Int)) (hX : X = (x : Int)) (v : Value) (l : List UInt8) (w : World) (hx : x < 2 ^ 64) (hs : size = 1 ∨ size = 2 ∨ size = 4 ∨ size = 8) (hn : l.length ≤ 1000000000) (h : RdB w v l) :
    Calls Tryz.prog 106 #[v, .int .u64 X, .int .i64 S] w fun e w' => ∃ v', e = .returned v' ∧ OwnB w' w.heap.size v' (l ++ le x size) ∧ w.grownBy w' none := by
  subst hS hX; exact put_any x size v l w hx hs hn h

theorem take64i (S : Int) (size : Nat) (hS : S = (size : Int)) (v : Value) (l : List UInt8) (w : World) (hs : size ≤ 8) (hn : size ≤ l.length) (hl : l.length ≤ 1000000000) (h : RdB w v l) :
    Calls Tryz.prog 145 #[v, .int .i64 S] w fun e w' => ∃ r, e = .returned (.tuple #[.int .u64 (rdN (l.take size)), r]) ∧ (∀ W, RdB W v l → RdB W r (l.drop size)) ∧ w.grownBy w' none := by
  subst hS; exact take64 size v l w hs hn hl h

end Go.Proofs.YtipankjajdpiiaaGreat

/- octet, the third part: an edge's bytes. -/
namespace Go.Proofs.YtipankjajdpiiaaGreat
open Go.RowKit
set_option maxRecDepth 100000
set_option maxHeartbeats 400000

structure Ed where
  t : UInt32
  h : UInt32
  w : UInt64
  m : UInt32

def u32v (x : UInt32) : Value := .int .u32 x.toNat
def u64v (x : UInt64) : Value := .int .u64 x.toNat
def Ed.cells (e : Ed) : Array Value := #[u32v e.t, u32v e.h, u64v e.w, u32v e.m]
def Ed.v (e : Ed) : Value := .agg e.cells
def Ed.row (e : Ed) : List UInt8 := le e.t.toNat 4 ++ le e.h.toNat 4 ++ le e.w.toNat 8
def Ed.bytes (e : Ed) : List UInt8 := e.row ++ le e.m.toNat 4

end Go.Proofs.YtipankjajdpiiaaGreat
