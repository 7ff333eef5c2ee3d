/-
  The document's disk in memory.
-/
import Derived.Test.YtipankjajdpiiaaGreatR2
import Derived.Test.YtipankjajdpiiaaGreatRg
import Derived.Test.YtipankjajdpiiaaGreatOp
namespace Go.Proofs.YtipankjajdpiiaaGreat
open Go.RowKit Go.Maps
set_option maxRecDepth 100000
set_option maxHeartbeats 400000

/-- a file of the list, with the slices that it has. -/
structure Rm where
  n : List UInt8
  nv : Value
  lv : Value
  sv : Value
  now : List UInt8
  lasts : List UInt8
  loose : List Bool
def Rm.enc (x : Rm) : List Value := [.string ⟨x.n.toArray⟩, x.nv, x.lv, x.sv]
theorem rm4 (x : Rm) : x.enc.length = 4 := rfl
def Rm.rf (x : Rm) : Rf := ⟨x.n, x.now, x.lasts, x.loose⟩
def blL (l : List Bool) : List Value := l.map Value.bool
/-- the two blocks that are written over: the disk's own, and its list's. -/
def twO (r : Nat) (v : Value) : Own1 := fun i => if i = r ∨ blk v = some i then some (0, []) else none
theorem twO_none {r : Nat} {v : Value} {i : Nat} : twO r v i = none ↔ i ≠ r ∧ blk v ≠ some i := by
  unfold twO
  split
  · next h =>
    constructor
    · intro e; cases e
    · rintro ⟨h1, h2⟩; rcases h with h | h
      · exact absurd h h1
      · exact absurd h h2
  · next h => exact ⟨fun _ => ⟨fun e => h (.inl e), fun e => h (.inr e)⟩, fun _ => rfl⟩
/-- what was made meanwhile is owned, too. -/
def growO (O : Own1) (w w' : World) : Own1 := fun i => if O i = none then (if w.heap.size ≤ i ∧ i < w'.heap.size then some (9, []) else none) else O i
structure RmOk (w : World) (O : Own1) (r : Nat) (v : Value) (x : Rm) : Prop where
  now : RdB w x.nv x.now
  lasts : RdB w x.lv x.lasts
  loose : Rd w 1 x.sv x.loose.length (blL x.loose)
  off : ∀ q, (blk x.nv = some q ∨ blk x.lv = some q ∨ blk x.sv = some q) → O q ≠ none ∧ q ≠ r ∧ blk v ≠ some q
  small : x.n.length ≤ 24 ∧ x.now.length ≤ 16777216 ∧ x.lasts.length ≤ 16777216 ∧ x.loose.length ≤ 262144
structure RV (w0 w : World) (r : Nat) (O : Own1) (A : Option Addr) (N c : Nat) (l : List Rm) (q a : Nat) (off : Bool) : Prop where
  len : l.length = N
  self : Blk w r 77 #[.slice A N c, .int .i64 q, .int .i64 a, .bool off]
  own : Own w w0.heap.size 4 (.slice A N c) N (l.flatMap Rm.enc)
  ok : ∀ x ∈ l, RmOk w O r (.slice A N c) x
  lo : ∀ b, blk (.slice A N c) = some b → O b ≠ none ∧ b ≠ r
  me : O r ≠ none
  inb : ∀ i, O i ≠ none → w0.heap.size ≤ i ∧ i < w.heap.size
  gr : w0.grownBy w none
  lim : q ≤ 1048576 ∧ a ≤ 9223372036854775807 ∧ N ≤ 1000000
def RS (w0 w : World) (r : Nat) (O : Own1) (R : RD) : Prop := ∃ A N c l, RV w0 w r O A N c l R.q R.armed R.off ∧ l.map Rm.rf = R.L
def RSn (w0 : World) (r : Nat) (O : Own1) (R' : RD) (w w' : World) : Prop := ∃ O', RS w0 w' r O' R' ∧ Ch O w O' w'
section
variable {w0 w w' wb : World} {r N c q a k : Nat} {O O' O1 O1' : Own1} {A : Option Addr} {l : List Rm} {off : Bool} {v : Value} {x : Rm} {R : RD}
theorem rm_set {l : List Rm} {i j : Nat} (hi : i < l.length) (hj : j < 4) {x' : Rm} {u : Value} (he : x'.enc = (l[i].enc).set j u) : (l.flatMap Rm.enc).set (i * 4 + j) u = (l.set i x').flatMap Rm.enc := by
  induction l generalizing i with
  | nil => simp at hi
  | cons y l ih =>
    cases i with
    | zero =>
      have he' : x'.enc = y.enc.set j u := he
      rw [List.set_cons_zero, List.flatMap_cons, List.flatMap_cons, he', show 0 * 4 + j = j from by omega]
      exact List.set_append_left _ _ (by rw [rm4]; omega)
    | succ i =>
      rw [List.set_cons_succ, List.flatMap_cons, List.flatMap_cons, ← ih (by simpa using hi) he]
      rw [List.set_append_right _ _ (by rw [rm4]; omega), rm4]
      congr 2
      omega
theorem RmOk.same (h : RmOk w O r v x) (hb : ∀ i, O i ≠ none → i ≠ r → blk v ≠ some i → w'.heap[i]? = w.heap[i]?) : RmOk w' O r v x := by
  refine ⟨h.now.same fun k e => ?_, h.lasts.same fun k e => ?_, h.loose.same fun k e => ?_, h.off, h.small⟩
  · have := h.off k (.inl e); exact hb k this.1 this.2.1 this.2.2
  · have := h.off k (.inr (.inl e)); exact hb k this.1 this.2.1 this.2.2
  · have := h.off k (.inr (.inr e)); exact hb k this.1 this.2.1 this.2.2
theorem RmOk.mono (h : RmOk w O r v x) (ho : ∀ i, O i ≠ none → O' i ≠ none) : RmOk w O' r v x := ⟨h.now, h.lasts, h.loose, fun q e => ⟨ho q (h.off q e).1, (h.off q e).2⟩, h.small⟩
theorem RV.ext (h : RV w0 w r O A N c l q a off) (g : w.grownBy w' none) : RV w0 w' r O A N c l q a off :=
  ⟨h.len, h.self.ext g, h.own.ext g, fun x hx => (h.ok x hx).same fun i hi _ _ => g.block i (h.inb i hi).2 (by simp), h.lo, h.me, fun i hi => ⟨(h.inb i hi).1, Nat.lt_of_lt_of_le (h.inb i hi).2 g.size⟩, gr_none h.gr g, h.lim⟩
theorem RV.keep (h : RV w0 w r O A N c l q a off) (hc : Ch O1 w O1' w') (hd : Dsj O O1) (hg : w0.grownBy w' none) : RV w0 w' r O A N c l q a off :=
  ⟨h.len, h.self.same (hc.block r (h.inb r h.me).2 (hd.off r h.me)), hc.own h.own (by omega) (fun b e => hd.off b (h.lo b e).1), fun x hx => (h.ok x hx).same fun i hi _ _ => hc.block i (h.inb i hi).2 (hd.off i hi), h.lo, h.me, fun i hi => ⟨(h.inb i hi).1, Nat.lt_of_lt_of_le (h.inb i hi).2 hc.size⟩, hg, h.lim⟩
theorem RV.grow (h : RV w0 w r O A N c l q a off) (hb : w0.heap.size ≤ wb.heap.size) : RV w0 w r (growO O wb w) A N c l q a off := by
  have ho : ∀ i, O i ≠ none → growO O wb w i ≠ none := fun i hi => by unfold growO; rw [if_neg hi]; exact hi
  refine ⟨h.len, h.self, h.own, fun x hx => (h.ok x hx).mono ho, fun b e => ⟨ho b (h.lo b e).1, (h.lo b e).2⟩, ho r h.me, fun i hi => ?_, h.gr, h.lim⟩
  unfold growO at hi
  split at hi
  · split at hi
    · next h2 => exact ⟨by omega, h2.2⟩
    · exact absurd rfl hi
  · exact h.inb i hi
theorem growO_ch (h : Ch O wb O w) : Ch O wb (growO O wb w) w := ⟨h.os, h.tape, h.output, h.size, h.block, fun i hi h0 => by
  unfold growO
  rw [if_pos h0, if_neg (by omega)]⟩
theorem growO_new {i : Nat} (h : wb.heap.size ≤ i ∧ i < w.heap.size) : growO O wb w i ≠ none := by
  unfold growO
  cases e : O i with
  | none => rw [if_pos rfl, if_pos h]; simp
  | some t => rw [if_neg (by simp)]; simp
/-- a file's fields are read, and written. -/
theorem RV.at_ (h : RV w0 w r O A N c l q a off) (hk : k < N) : ∃ gl offl, A = some ⟨gl, offl, none⟩ ∧ N ≤ c ∧ gl ≠ r ∧ O gl ≠ none ∧ (∀ hk : k < l.length, w.cell? ⟨gl, offl + k * 4, none⟩ = some (.string ⟨l[k].n.toArray⟩) ∧ w.cell? ⟨gl, offl + k * 4 + 1, none⟩ = some l[k].nv ∧ w.cell? ⟨gl, offl + k * 4 + 2, none⟩ = some l[k].lv ∧ w.cell? ⟨gl, offl + k * 4 + 3, none⟩ = some l[k].sv) ∧
    (∀ j, j < 4 → w.frozen? ⟨gl, offl + k * 4 + j, none⟩ = false) ∧
    ∀ (hk : k < l.length) (j : Nat) (u : Value) (x' : Rm), j < 4 → x'.enc = (l[k].enc).set j u → RmOk w O r (.slice A N c) x' → RV w0 (w.setCell ⟨gl, offl + k * 4 + j, none⟩ u) r O A N c (l.set k x') q a off := by
  obtain ⟨hl, A', c', gl, offl, e, hn, hc, hA0, hA, hB, hx, hf⟩ := id h.own
  cases e
  obtain rfl := hA (by omega)
  have hb : blk (.slice (some ⟨gl, offl, none⟩) N c) = some gl := by show (if c = 0 then none else some gl) = some gl; rw [if_neg (by omega)]
  obtain ⟨hgo, hgr⟩ := h.lo gl hb
  have hlen := h.len
  refine ⟨gl, offl, rfl, hn, hgr, hgo, fun hkl => ?_, fun j hj => ?_, fun hkl j u x' hj he hok => ?_⟩
  · have key : ∀ j, j < 4 → w.cell? ⟨gl, offl + k * 4 + j, none⟩ = (l[k].enc)[j]? := fun j hj => by
      have := hx (k * 4 + j) (by omega)
      rw [← Nat.add_assoc] at this
      rw [this]
      exact flat_at rm4 l hkl hj
    exact ⟨key 0 (by omega), key 1 (by omega), key 2 (by omega), key 3 (by omega)⟩
  · have := (hf (k * 4 + j) (by omega)).2
    rw [← Nat.add_assoc] at this
    exact this
  · have hgs := gr_setCell w ⟨gl, offl + k * 4 + j, none⟩ u
    have hsame : ∀ i, O i ≠ none → i ≠ r → blk (.slice (some ⟨gl, offl, none⟩) N c) ≠ some i → (w.setCell ⟨gl, offl + k * 4 + j, none⟩ u).heap[i]? = w.heap[i]? := fun i hi _ hne => hgs.block i (h.inb i hi).2 fun e => hne (by rw [hb]; exact e.symm)
    refine ⟨by rw [List.length_set]; exact hlen, h.self.far (fun e => hgr e.symm) u, ?_, fun y hy => ?_, h.lo, h.me, fun i hi => ⟨(h.inb i hi).1, by rw [World.size_setCell]; exact (h.inb i hi).2⟩, gr_trans h.gr hgs (.inr fun b e => by cases e; exact (h.inb gl hgo).1), h.lim⟩
    · have h9 := Own.set (A := some ⟨gl, offl, none⟩) rfl h.own (j := k * 4 + j) (by omega) u
      rw [rm_set hkl hj he, ← Nat.add_assoc] at h9
      exact h9
    · rcases List.mem_or_eq_of_mem_set hy with hy | hy
      · exact (h.ok y hy).same hsame
      · rw [hy]; exact hok.same hsame
end
end Go.Proofs.YtipankjajdpiiaaGreat

/- The document's disk: the small functions. -/
namespace Go.Proofs.YtipankjajdpiiaaGreat
open Go.RowKit Go.Maps
set_option maxRecDepth 100000
set_option maxHeartbeats 400000

theorem rname_any (s : List UInt8) (w : World) (hs : s.length ≤ 1000000000) : Calls Tryz.prog 87 #[.string ⟨s.toArray⟩] w fun e w' => e = .returned (.bool (rightB s)) ∧ w = w' := by
  have hmx : s.length ≤ maxLen := by unfold maxLen; omega
  go_enter Tryz.func87, Tryz.ntmps87
  go_wp2
  go_loop [3, 4] (fun i _ => ∃ k : Nat, k ≤ s.length ∧ i = .int .i64 k ∧ (s.take k).all okChar = true) (fun i _ => s.length - (intOf i).toNat)
  case atStart => exact ⟨0, by omega, rfl, by simp⟩
  case round =>
    obtain ⟨k, hk, rfl, hall⟩ := hrel
    have Hall := Lib.hid hall
    clear hall
    by_cases hlt : k < s.length
    · have hsz : k < (⟨s.toArray⟩ : ByteArray).size := by show k < s.toArray.size; rw [List.size_toArray]; exact hlt
      have hg1 : ((⟨s.toArray⟩ : ByteArray)[k]'hsz).toNat = s[k].toNat := by
        congr 1
      have hok : Hid (okChar s[k] = true → (s.take (k + 1)).all okChar = true) := fun h => by
        rw [List.take_succ_eq_append_getElem hlt, List.all_append, Hall.out]; simp [h]
      have hno : Hid (okChar s[k] = false → rightB s = false) := fun h => by
        unfold rightB
        have : s.all okChar = false := by
          rw [Bool.eq_false_iff]
          intro h2
          rw [List.all_eq_true.1 h2 s[k] (List.getElem_mem hlt)] at h
          cases h
        rw [this]; rfl
      have hch : Hid (okChar s[k] = ((decide (97 ≤ (s[k].toNat : Int)) && decide ((s[k].toNat : Int) ≤ 122)) || ((decide (48 ≤ (s[k].toNat : Int)) && decide ((s[k].toNat : Int) ≤ 57)) || (((s[k].toNat : Int) == 46) || ((s[k].toNat : Int) == 45))))) := by
        show _ = _
        unfold okChar
        rw [Bool.eq_iff_iff]
        simp
        omega
      have hb := s[k].toNat_lt
      generalize s[k].toNat = x at *
      have hcases : (x < 45 ∨ x = 47 ∨ (58 ≤ x ∧ x ≤ 96) ∨ 123 ≤ x) ∨ (x = 45 ∨ x = 46 ∨ (48 ≤ x ∧ x ≤ 57) ∨ (97 ≤ x ∧ x ≤ 122)) := by omega
      rcases hcases with hbad | hgood
      · have hfin : rightB s = false := by
          refine hno.out ?_
          rw [hch.out]
          simp
          omega
        have Hfin := Lib.hid hfin
        have b1 : ((x : Int) == 46) = false := by rw [beq_eq_false_iff_ne]; omega
        have b2 : ((x : Int) == 45) = false := by rw [beq_eq_false_iff_ne]; omega
        clear hch hok hno hfin Hall
        rcases hbad with h1 | h1 | ⟨h1, h2⟩ | h1
        · have q1 : ¬ (97 : Int) ≤ (x : Int) := by omega
          have q1d : decide ((97 : Int) ≤ (x : Int)) = false := decide_eq_false q1
          have q3 : ¬ (48 : Int) ≤ (x : Int) := by omega
          have q3d : decide ((48 : Int) ≤ (x : Int)) = false := decide_eq_false q3
          go_wp2
          go_ret
          exact ⟨by rw [Hfin.out]; rfl, rfl⟩
        · subst h1
          go_wp2
          go_ret
          exact ⟨by rw [Hfin.out]; rfl, rfl⟩
        · have q1 : ¬ (97 : Int) ≤ (x : Int) := by omega
          have q1d : decide ((97 : Int) ≤ (x : Int)) = false := decide_eq_false q1
          have q3 : (48 : Int) ≤ (x : Int) := by omega
          have q3d : decide ((48 : Int) ≤ (x : Int)) = true := decide_eq_true q3
          have q4 : ¬ (x : Int) ≤ 57 := by omega
          have q4d : decide ((x : Int) ≤ 57) = false := decide_eq_false q4
          go_wp2
          go_ret
          exact ⟨by rw [Hfin.out]; rfl, rfl⟩
        · have q1 : (97 : Int) ≤ (x : Int) := by omega
          have q1d : decide ((97 : Int) ≤ (x : Int)) = true := decide_eq_true q1
          have q2 : ¬ (x : Int) ≤ 122 := by omega
          have q2d : decide ((x : Int) ≤ 122) = false := decide_eq_false q2
          have q3 : (48 : Int) ≤ (x : Int) := by omega
          have q3d : decide ((48 : Int) ≤ (x : Int)) = true := decide_eq_true q3
          have q4 : ¬ (x : Int) ≤ 57 := by omega
          have q4d : decide ((x : Int) ≤ 57) = false := decide_eq_false q4
          go_wp2
          go_ret
          exact ⟨by rw [Hfin.out]; rfl, rfl⟩
      · have hfin : (s.take (k + 1)).all okChar = true := by
          refine hok.out ?_
          rw [hch.out]
          simp
          omega
        have Hfin := Lib.hid hfin
        clear hch hok hno hfin Hall
        rcases hgood with h1 | h1 | ⟨h1, h2⟩ | ⟨h1, h2⟩
        · subst h1
          go_wp2
          go_round
          case rel => exact ⟨k + 1, by omega, by go_num, Hfin.out⟩
          case measure => simp [intOf]; omega
        · subst h1
          go_wp2
          go_round
          case rel => exact ⟨k + 1, by omega, by go_num, Hfin.out⟩
          case measure => simp [intOf]; omega
        · have q1 : ¬ (97 : Int) ≤ (x : Int) := by omega
          have q1d : decide ((97 : Int) ≤ (x : Int)) = false := decide_eq_false q1
          have q3 : (48 : Int) ≤ (x : Int) := by omega
          have q3d : decide ((48 : Int) ≤ (x : Int)) = true := decide_eq_true q3
          have q4 : (x : Int) ≤ 57 := by omega
          have q4d : decide ((x : Int) ≤ 57) = true := decide_eq_true q4
          go_wp2
          go_round
          case rel => exact ⟨k + 1, by omega, by go_num, Hfin.out⟩
          case measure => simp [intOf]; omega
        · have q1 : (97 : Int) ≤ (x : Int) := by omega
          have q1d : decide ((97 : Int) ≤ (x : Int)) = true := decide_eq_true q1
          have q2 : (x : Int) ≤ 122 := by omega
          have q2d : decide ((x : Int) ≤ 122) = true := decide_eq_true q2
          go_wp2
          go_round
          case rel => exact ⟨k + 1, by omega, by go_num, Hfin.out⟩
          case measure => simp [intOf]; omega
    · have hall : s.all okChar = true := by rw [← Hall.out, List.take_of_length_le (by omega)]
      have hr : rightB s = (decide ((1 : Int) ≤ (s.length : Int)) && decide ((s.length : Int) ≤ 24)) := by
        unfold rightB
        rw [hall, Bool.eq_iff_iff]
        simp
        omega
      have Hr := Lib.hid hr
      clear hall hr Hall
      by_cases h1 : (1 : Int) ≤ (s.length : Int)
      · by_cases h2 : (s.length : Int) ≤ 24
        · go_wp2
          go_ret
          exact ⟨by rw [Hr.out]; simp [h1, h2], rfl⟩
        · go_wp2
          go_ret
          exact ⟨by rw [Hr.out]; simp [h1, h2], rfl⟩
      · go_wp2
        go_ret
        exact ⟨by rw [Hr.out, decide_eq_false (show ¬ (1 : Int) ≤ (s.length : Int) by omega)]; rfl, rfl⟩
section
variable {w0 w w' : World} {r N c q a k : Nat} {O : Own1} {A : Option Addr} {l : List Rm} {off : Bool} {R : RD}
theorem RV.num (h : RV w0 w r O A N c l q a off) (g : w.grownBy w' (some r)) {q' a' : Nat} {off' : Bool} (hs : Blk w' r 77 #[.slice A N c, .int .i64 q', .int .i64 a', .bool off']) (hl : q' ≤ 1048576 ∧ a' ≤ 9223372036854775807) : RV w0 w' r O A N c l q' a' off' :=
  ⟨h.len, hs, Own.off h.own g fun k e e2 => by cases e; exact (h.lo r e2).2 rfl, fun x hx => (h.ok x hx).same fun i hi hne _ => g.block i (h.inb i hi).2 fun e => hne (by cases e; rfl), h.lo, h.me, fun i hi => ⟨(h.inb i hi).1, Nat.lt_of_lt_of_le (h.inb i hi).2 g.size⟩, gr_trans h.gr g (.inr fun b e => by cases e; exact (h.inb r h.me).1), ⟨hl.1, hl.2, h.lim.2.2⟩⟩
theorem rgone_any (h : RV w0 w r O A N c l q a off) : Calls Tryz.prog 86 #[.pointer (some ⟨r, 0, none⟩)] w fun e w' => e = .returned (.bool (if 0 < a then off || decide (a = 1) else off)) ∧ RV w0 w' r O A N c l q (if 0 < a then a - 1 else a) (if 0 < a then off || decide (a = 1) else off) ∧ w.grownBy w' (some r) := by
  have hc := h.self.cell
  have hf := h.self.frozen
  have H := Lib.hid h
  clear h
  rcases Nat.lt_or_ge 0 a with h0 | h0
  · rw [if_pos h0, if_pos h0]
    obtain ⟨k, rfl⟩ : ∃ k, a = k + 1 := ⟨a - 1, by omega⟩
    rw [Nat.add_sub_cancel]
    by_cases hk : k = 0
    · subst hk
      have HB : Hid (RV w0 ((w.setCell ⟨r, 2, none⟩ (.int .i64 ((0 : Nat) : Int))).setCell ⟨r, 3, none⟩ (.bool true)) r O A N c l q 0 true) := by
        refine H.out.num ((gr_trans (gr_setCell _ _ _) (gr_setCell _ _ _) (.inl rfl))) ?_ ⟨H.out.lim.1, by omega⟩
        simpa using (H.out.self.set 2 (.int .i64 ((0 : Nat) : Int))).set 3 (.bool true)
      clear h0
      rw [show (off || decide (0 + 1 = 1)) = true from by simp]
      go_enter Tryz.func86, Tryz.ntmps86
      go_wp2
      go_ret
      exact ⟨rfl, HB.out, gr_trans (gr_setCell _ _ _) (gr_setCell _ _ _) (.inl rfl)⟩
    · rw [show decide (k + 1 = 1) = false from decide_eq_false (by omega), Bool.or_false]
      have HB : Hid (RV w0 (w.setCell ⟨r, 2, none⟩ (.int .i64 (k : Int))) r O A N c l q k off) := by
        refine H.out.num (gr_setCell _ _ _) ?_ ⟨H.out.lim.1, by have := H.out.lim.2.1; omega⟩
        simpa using H.out.self.set 2 (.int .i64 (k : Int))
      have hk2 : ((k : Int) == 0) = false := by rw [beq_eq_false_iff_ne]; omega
      have hlim : (k : Int) + 1 ≤ 9223372036854775807 := by have := H.out.lim.2.1; omega
      have h1 : (0 : Int) < (k : Int) + 1 := by omega
      clear h0 hk
      go_enter Tryz.func86, Tryz.ntmps86
      go_wp2
      go_ret
      exact ⟨rfl, HB.out, gr_setCell _ _ _⟩
  · obtain rfl : a = 0 := by omega
    rw [if_neg (by omega), if_neg (by omega)]
    clear h0
    go_enter Tryz.func86, Tryz.ntmps86
    go_wp2
    go_ret
    exact ⟨rfl, H.out, gr_refl _ _⟩
/-- the place of a name. -/
def IxM (l : List Rm) (n : List UInt8) (z : Int) : Prop := (∃ i : Nat, z = (i : Int) ∧ ∃ h : i < l.length, l[i].n = n ∧ ∀ j, (hj : j < l.length) → j < i → l[j].n ≠ n) ∨ (z = -1 ∧ ∀ x ∈ l, x.n ≠ n)
theorem rat_any (h : RV w0 w r O A N c l q a off) (n : List UInt8) : Calls Tryz.prog 88 #[.pointer (some ⟨r, 0, none⟩), .string ⟨n.toArray⟩] w fun e w' => (∃ z, e = .returned (.int .i64 z) ∧ IxM l n z) ∧ w.grownBy w' none := by
  have hlim := h.lim.2.2
  have hlen := h.len
  have H := Lib.hid h
  have HL := Lib.hid hlen
  clear h hlen
  go_enter Tryz.func88, Tryz.ntmps88
  go_wp2_with fail
  go_loopw [5] (fun iv wr => ∃ k : Nat, k ≤ N ∧ iv = .int .i64 k ∧ w.grownBy wr none ∧ ∀ j, (hj : j < l.length) → j < k → l[j].n ≠ n) (fun iv _ => N - (intOf iv).toNat)
  case atStart => exact ⟨0, Nat.zero_le _, rfl, gr_refl _ _, fun j _ hj => by omega⟩
  case round =>
    obtain ⟨k, hk, rfl, hg, hall⟩ := hrel
    have hs := (H.out.self.ext hg).cell
    by_cases hlt : k < N
    · have hkl : k < l.length := by rw [HL.out]; exact hlt
      obtain ⟨ga, offa, rfl, hNc, -, -, hat, -⟩ := (H.out.ext hg).at_ hlt
      have c0 := (hat hkl).1
      obtain ⟨nm, hnm⟩ : ∃ nm, nm = l[k].n := ⟨_, rfl⟩
      rw [← hnm] at c0
      have HX : Hid (l[k].n = nm) := hnm.symm
      have HALL := Lib.hid hall
      have HG := Lib.hid hg
      clear hat hnm hall hg
      by_cases he : nm = n
      · have b1 : (nm == n) = true := by simpa using he
        have HI : Hid (IxM l n (k : Int)) := .inl ⟨k, rfl, hkl, by rw [HX.out]; exact he, HALL.out⟩
        clear he
        go_wp2_with fail
        go_ret
        exact ⟨⟨_, rfl, HI.out⟩, HG.out⟩
      · have b1 : (nm == n) = false := by simpa using he
        have HA2 : Hid (∀ j, (hj : j < l.length) → j < k + 1 → l[j].n ≠ n) := fun j hj hjk => by
          by_cases e : j = k
          · subst e; rw [HX.out]; exact he
          · exact HALL.out j hj (by omega)
        clear he
        go_wp2_with fail
        go_roundw
        case rel => exact ⟨k + 1, by omega, by go_num, HG.out, HA2.out⟩
        case measure => simp [intOf] <;> omega
    · obtain rfl : k = N := by omega
      have HI : Hid (IxM l n (-1)) := .inr ⟨rfl, fun x hx => by
        obtain ⟨j, hj, e⟩ := List.mem_iff_getElem.1 hx
        rw [← e]; exact hall j hj (by rw [← HL.out]; exact hj)⟩
      have HG := Lib.hid hg
      clear hg hall
      go_wp2_with fail
      go_ret
      exact ⟨⟨_, rfl, HI.out⟩, HG.out⟩
theorem rsectors_any (n : Nat) (w : World) (h1 : n ≤ 1000000000000) : Calls Tryz.prog 89 #[.int .i64 (n : Int)] w fun e w' => e = .returned (.int .i64 (sectors n)) ∧ w = w' := by
  have e : ((n : Int) + 64 - 1) / 64 = ((sectors n : Nat) : Int) := by unfold sectors; omega
  have E := Lib.hid e
  have h2 : (n : Int) ≤ 1000000000000 := by omega
  clear e h1
  go_enter Tryz.func89, Tryz.ntmps89
  go_wp2
  go_ret
  exact ⟨by rw [E.out]; rfl, rfl⟩
theorem ixm_find {L : List Rf} {n : List UInt8} {z : Int} (hl : l.map Rm.rf = L) (h : IxM l n z) : (∃ i : Nat, z = (i : Int) ∧ ∃ hi : i < l.length, l[i].n = n ∧ L.find? (fun f => f.n == n) = some l[i].rf) ∨ (z = -1 ∧ L.find? (fun f => f.n == n) = none) := by
  subst hl
  rcases h with ⟨i, e, hi, hn, hall⟩ | ⟨e, hall⟩
  · refine .inl ⟨i, e, hi, hn, ?_⟩
    rw [List.find?_eq_some_iff_getElem]
    refine ⟨by show (l[i].n == n) = true; simpa using hn, i, by rw [List.length_map]; exact hi, by rw [List.getElem_map], fun j hj => ?_⟩
    rw [List.getElem_map]
    show (!(l[j].n == n)) = true
    have := hall j (by omega) hj
    simpa using this
  · refine .inr ⟨e, ?_⟩
    rw [List.find?_eq_none]
    intro y hy
    obtain ⟨x, hx, rfl⟩ := List.mem_map.1 hy
    have := hall x hx
    simpa [Rm.rf] using this
end
end Go.Proofs.YtipankjajdpiiaaGreat
