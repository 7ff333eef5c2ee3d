/-
  Records of a journal: in memory, and as a sector's bytes.
-/
import Derived.Test.YtipankjajdpiiaaGreatCrc
import Derived.Test.YtipankjajdpiiaaGreatRef
namespace Go.Proofs.YtipankjajdpiiaaGreat
open Go.RowKit
set_option maxRecDepth 100000
set_option maxHeartbeats 400000

structure Rc where
  k : UInt32
  a : UInt32
  b : UInt32
def Rc.cells (r : Rc) : Array Value := #[.int .u32 r.k.toNat, .int .u32 r.a.toNat, .int .u32 r.b.toNat]
def rcL (l : List Rc) : List Value := l.flatMap fun r => r.cells.toList
def OwnR (w : World) (B : Nat) (v : Value) (l : List Rc) : Prop := Own w B 3 v l.length (rcL l)
def RdR (w : World) (v : Value) (l : List Rc) : Prop := Rd w 3 v l.length (rcL l)
theorem rcL_len (l : List Rc) : (rcL l).length = l.length * 3 := by
  induction l with
  | nil => rfl
  | cons r l ih =>
    have e : rcL (r :: l) = r.cells.toList ++ rcL l := rfl
    rw [e, List.length_append, ih]
    simp [Rc.cells]
    omega
theorem rcL_append (l m : List Rc) : rcL (l ++ m) = rcL l ++ rcL m := by simp [rcL]
theorem rcL_at (l : List Rc) {k j : Nat} (hk : k < l.length) (hj : j < 3) : (rcL l)[k * 3 + j]? = (l[k].cells)[j]? := by
  induction l generalizing k with
  | nil => simp at hk
  | cons r l ih =>
    have e : rcL (r :: l) = r.cells.toList ++ rcL l := rfl
    have hl : r.cells.toList.length = 3 := rfl
    cases k with
    | zero =>
      rw [e, List.getElem?_append_left (by omega)]
      simp
    | succ k =>
      rw [e, List.getElem?_append_right (by omega), hl, show (k + 1) * 3 + j - 3 = k * 3 + j from by omega]
      exact ih (by simpa using hk)
theorem rc_one (l : List Rc) : ∀ u ∈ rcL l, u.oneCell' = true := by
  intro u hu
  obtain ⟨r, _, h⟩ := List.mem_flatMap.1 hu
  simp [Rc.cells] at h
  rcases h with rfl | rfl | rfl <;> rfl
section
variable {w w' : World} {B : Nat} {v : Value} {l : List Rc}
theorem OwnR.rd (h : OwnR w B v l) : RdR w v l := Own.rd h
theorem OwnR.nil (w : World) (B : Nat) : OwnR w B (.slice none 0 0) [] := Own.nil _ _ _
theorem RdR.ext (h : RdR w v l) (hg : w.grownBy w' none) : RdR w' v l := Rd.ext h hg
theorem OwnR.ext (h : OwnR w B v l) (hg : w.grownBy w' none) : OwnR w' B v l := Own.ext h hg
theorem RdR.form (h : RdR w v l) : ∃ A c, v = .slice A l.length c := by obtain ⟨_, A, c, _, _, e, _⟩ := h; exact ⟨A, c, e⟩
theorem RdR.at_ {A : Option Addr} {c : Nat} (h : RdR w (.slice A l.length c) l) : ∃ g off, (0 < l.length → A = some ⟨g, off, none⟩) ∧ l.length ≤ c ∧ c ≤ maxLen ∧ ∀ k (hk : k < l.length), ∀ j, j < 3 → w.cell? ⟨g, off + k * 3 + j, none⟩ = (l[k].cells)[j]? := by
  obtain ⟨_, _, _, g, off, e, hn, hc, _, hA, hx⟩ := h
  cases e
  refine ⟨g, off, fun h0 => hA (by omega), hn, hc, fun k hk j hj => ?_⟩
  rw [Nat.add_assoc, hx _ (by omega), rcL_at l hk hj]
end
theorem ownR_app {w : World} {B : Nat} {v : Value} {l m : List Rc} (h : Own w B 3 v (l.length + m.length) (rcL l ++ rcL m)) : OwnR w B v (l ++ m) := by
  unfold OwnR; rw [List.length_append, rcL_append]; exact h
theorem Tryz.infoR : (Tryz.prog.info? 38).map (fun i => (i.zero, i.size, i.bytes)) = some (some (.agg #[.int .u32 0, .int .u32 0, .int .u32 0]), 3, 12) := by kernel_rfl
/-- append(v, x...) of records. -/
theorem wp_appR {ops : Array Oper} {rest : List Oper} {o : Oper} {a : Act} {Q : Exit → Act → World → Prop} {w : World} (hgd : o.guard = none) (s0 x0 : Operand)
    (ho : o.op = .call { callee := .builtin .append, args := #[s0, x0], argTypes := #[46, 46] }) {B : Nat} {v x : Value} {l m : List Rc} (hs : a.eval s0 = v) (hown : OwnR w B v l)
    (hx : a.eval x0 = x) (hr : RdR w x m) (hn : l.length + m.length ≤ 1000000000) (hB : B ≤ w.heap.size)
    (h : ∀ v' w', OwnR w' B v' (l ++ m) → w.grownBy w' v.ownBlock → (v'.ownBlock = v.ownBlock ∨ ∃ k, v'.ownBlock = some k ∧ w.heap.size ≤ k) → wpList Tryz.prog ops Q rest (a.put o.dst v') w') :
    wpList Tryz.prog ops Q (o :: rest) a w :=
  wp_app w hgd s0 x0 _ ho B 38 _ 3 12 Tryz.underlying46 Tryz.infoR rfl (by omega) v _ _ hs hown x _ _ hx hr (rc_one m) (by unfold maxLen; omega) (by omega) hB
    fun v' w' h1 h2 h3 => h v' w' (ownR_app h1) h2 h3
/-- append(v, x), x one record that was laid just ahead. -/
theorem wp_app1R {ops : Array Oper} {rest : List Oper} {o : Oper} {a : Act} {Q : Exit → Act → World → Prop} {w : World} (r : Rc) (C : Array Value) (hC : C = r.cells) (hgd : o.guard = none) (s0 x0 : Operand)
    (ho : o.op = .call { callee := .builtin .append, args := #[s0, x0], argTypes := #[46, 46] }) {B : Nat} {v : Value} {l : List Rc} (hs : a.eval s0 = v) (hown : OwnR w B v l)
    (g : Nat) (hx : a.eval x0 = .slice (some ⟨g, 0, none⟩) 1 1) (hg : g = w.heap.size) (hn : l.length ≤ 1000000000) (hB : B ≤ w.heap.size)
    (h : ∀ v' w', OwnR w' B v' (l ++ [r]) → w.grownBy w' v.ownBlock → (v'.ownBlock = v.ownBlock ∨ ∃ k, v'.ownBlock = some k ∧ w.heap.size ≤ k) → wpList Tryz.prog ops Q rest (a.put o.dst v') w') :
    wpList Tryz.prog ops Q (o :: rest) a (w.alloc (.cells C 38)) := by
  subst hC hg
  have he : rcL [r] = r.cells.toList := by simp [rcL]
  exact wp_app1 w r.cells hgd s0 x0 _ ho B 38 _ 3 12 Tryz.underlying46 Tryz.infoR rfl (by omega) v _ _ hs hown hx rfl (by rw [← he]; exact rc_one [r]) (by unfold maxLen; omega) (by omega) hB
    fun v' w' h1 h2 h3 => h v' w' (ownR_app (m := [r]) (by rw [he]; exact h1)) h2 h3

/-! as bytes -/
def secH (n : Nat) (r : Rc) : List UInt8 := le n 4 ++ le r.k.toNat 4 ++ le r.a.toNat 4 ++ le r.b.toNat 4 ++ List.replicate 44 0
def secB (n : Nat) (r : Rc) : List UInt8 := secH n r ++ le (crcS (secH n r)) 4
theorem secH_len (n : Nat) (r : Rc) : (secH n r).length = 60 := by simp [secH, length_le]
theorem secB_len (n : Nat) (r : Rc) : (secB n r).length = 64 := by simp [secB, secH_len, length_le]
def recOf (s : List UInt8) : Rc := ⟨UInt32.ofNat (rdN ((s.drop 4).take 4)), UInt32.ofNat (rdN ((s.drop 8).take 4)), UInt32.ofNat (rdN ((s.drop 12).take 4))⟩
/-- the records with which bytes begin, n of them read. -/
def readF : Nat → Nat → List UInt8 → List Rc
  | 0, _, _ => []
  | f + 1, n, b => if 64 ≤ b.length ∧ n < 65536 then (if (recOf (b.take 64)).k = 0 ∨ b.take 64 ≠ secB (n + 1) (recOf (b.take 64)) then [] else recOf (b.take 64) :: readF f (n + 1) (b.drop 64)) else []
def readJ (b : List UInt8) : List Rc := readF (b.length + 1) 0 b
end Go.Proofs.YtipankjajdpiiaaGreat

/- journal: field, sector, and slices.Equal of bytes. -/
namespace Go.Proofs.YtipankjajdpiiaaGreat
open Go.RowKit
set_option maxRecDepth 100000
set_option maxHeartbeats 400000

theorem rd4_lt (l : List UInt8) (i : Nat) : rdN ((l.drop i).take 4) < 4294967296 := rdN_take_lt (l.drop i) 4
theorem field_any (at_ : Nat) (v : Value) (l : List UInt8) (w : World) (hn : at_ + 4 ≤ l.length) (hl : l.length ≤ 1000000000) (h : RdB w v l) :
    Calls Tryz.prog 101 #[v, .int .i64 at_] w fun e w' => e = .returned (.int .u32 (rdN ((l.drop at_).take 4))) ∧ w.grownBy w' none := by
  have hg := get_any at_ 4 v l w (by omega) hn hl h
  have hlt := rd4_lt l at_
  generalize rdN ((l.drop at_).take 4) = x at *
  have HG := Lib.hid hg
  clear hg h
  go_enter Tryz.func101, Tryz.ntmps101
  go_wp2_with (go_at_call 126; refine HG.out.mono ?_; rintro e w1 ⟨rfl, g1⟩)
  go_ret
  exact ⟨by rw [show ((x : Int) = (x : Int) % 4294967296) from by omega]; rfl, g1⟩
theorem equalB_any (v v' : Value) (l l' : List UInt8) (w : World) (h : RdB w v l) (h' : RdB w v' l') (_hl : l.length ≤ 1000000000) (_hl' : l'.length ≤ 1000000000) :
    Calls Tryz.prog 102 #[v, v'] w fun e w' => (∃ b, e = .returned (.bool b) ∧ (b = true ↔ l = l')) ∧ w.grownBy w' none := by
  obtain ⟨_, A, c, g, off, rfl, _, _, _, hA, hx⟩ := h
  obtain ⟨_, A', c', g', off', rfl, _, _, _, hA', hx'⟩ := h'
  have HA := Lib.hid hA
  have HX := Lib.hid hx
  have HA' := Lib.hid hA'
  have HX' := Lib.hid hx'
  clear hA hx hA' hx'
  by_cases hll : l.length = l'.length
  · have hb : ((l.length : Int) != (l'.length : Int)) = false := by rw [bne_eq_false_iff_eq]; omega
    have hl1 : l.length ≤ l'.length := by omega
    have hl2 : l'.length ≤ l.length := by omega
    have HLL := Lib.hid hll
    clear hll
    go_enter Tryz.func102, Tryz.ntmps102
    go_wp2
    go_loopw [5, 13] (fun _ i wr => ∃ k : Nat, k ≤ l.length ∧ i = .int .i64 k ∧ l.take k = l'.take k ∧ w.grownBy wr none) (fun _ i _ => l.length - (intOf i).toNat)
    case atStart => exact ⟨0, by omega, rfl, by simp, gr_refl _ _⟩
    case round =>
      obtain ⟨k, hk, rfl, hall, hg⟩ := hrel
      have Hall := Lib.hid hall
      clear hall
      by_cases hlt : k < l.length
      · obtain rfl := HA.out (by omega)
        obtain rfl := HA'.out (by omega)
        have hc1 : w.cell? ⟨g, off + k, none⟩ = some (.int .u8 l[k].toNat) := by rw [HX.out k (by omega)]; simp [u8v, hlt]
        have hc2 : w.cell? ⟨g', off' + k, none⟩ = some (.int .u8 (l'[k]'(by omega)).toNat) := by rw [HX'.out k (by omega)]; simp [u8v, show k < l'.length by omega]
        have hd1 := hg.cell hc1 (by simp)
        have hd2 := hg.cell hc2 (by simp)
        have hkc : (k : Int) < (l'.length : Int) := by omega
        by_cases he : l[k] = l'[k]'(by omega)
        · have hne : (((l[k]).toNat : Int) != ((l'[k]'(by omega)).toNat : Int)) = false := by rw [bne_eq_false_iff_eq, he]
          have hst : Hid (l.take (k + 1) = l'.take (k + 1)) := by show _ = _; rw [take_snoc hlt, take_snoc (show k < l'.length by omega), Hall.out, he]
          have hx1 := l[k].toNat_lt
          have hx2 := (l'[k]'(by omega)).toNat_lt
          clear he hc1 hc2
          generalize (l'[k]'(by omega)).toNat = y at *
          generalize l[k].toNat = x at *
          go_wp2_with fail
          go_quiet (fail)
          go_wp2
          go_roundw
          case rel => exact ⟨k + 1, by omega, by go_num, hst.out, gr_none hg (gr_drewN _ _ _)⟩
          case measure => simp [intOf]; omega
        · have hne : (((l[k]).toNat : Int) != ((l'[k]'(by omega)).toNat : Int)) = true := by
            rw [bne_iff_ne]
            intro e
            exact he (UInt8.toNat_inj.1 (by omega))
          have hno : Hid (l ≠ l') := fun e => by subst e; exact he rfl
          have hx1 := l[k].toNat_lt
          have hx2 := (l'[k]'(by omega)).toNat_lt
          clear he hc1 hc2
          generalize (l'[k]'(by omega)).toNat = y at *
          generalize l[k].toNat = x at *
          go_wp2_with fail
          go_quiet (fail)
          go_wp2
          go_ret
          exact ⟨⟨false, rfl, by simpa using hno.out⟩, gr_none hg (gr_drewN _ _ _)⟩
      · obtain rfl : k = l.length := by omega
        go_wp2
        go_ret
        exact ⟨⟨true, rfl, by simp; have := Hall.out; rw [List.take_length, List.take_of_length_le (by omega)] at this; exact this⟩, hg⟩
  · have hb : ((l.length : Int) != (l'.length : Int)) = true := by rw [bne_iff_ne]; omega
    have HNE : Hid (l ≠ l') := fun e => hll (by rw [e])
    clear hll
    go_enter Tryz.func102, Tryz.ntmps102
    go_wp2
    go_ret
    exact ⟨⟨false, rfl, by simpa using HNE.out⟩, gr_refl _ _⟩
def fieldsB (m : List UInt32) : List UInt8 := m.flatMap fun x => le x.toNat 4
theorem fieldsB_len (m : List UInt32) : (fieldsB m).length = 4 * m.length := by
  induction m with
  | nil => rfl
  | cons x m ih =>
    have e : fieldsB (x :: m) = le x.toNat 4 ++ fieldsB m := rfl
    rw [e, List.length_append, ih, length_le, List.length_cons]
    omega
theorem fieldsB_snoc {m : List UInt32} {k : Nat} (hk : k < m.length) : fieldsB (m.take (k + 1)) = fieldsB (m.take k) ++ le m[k].toNat 4 := by
  unfold fieldsB
  rw [List.take_succ_eq_append_getElem hk, List.flatMap_append]
  congr 1
/-- append of noughts, at the operation. -/
theorem wp_appZ {ops : Array Oper} {rest : List Oper} {q : Oper} {a : Act} {Q : Exit → Act → World → Prop} {w : World} (hgd : q.guard = none) (s0 x0 : Operand)
    (ho : q.op = .call { callee := .builtin .append, args := #[s0, x0], argTypes := #[40, 3] }) {B : Nat} {v : Value} {l : List UInt8} (hs : a.eval s0 = v) (hown : OwnB w B v l) {M : Int} (m : Nat) (hM : M = (m : Int)) (hx : a.eval x0 = .int .i64 M)
    (hn : l.length + m ≤ 70000000000000) (hB : B ≤ w.heap.size)
    (h : ∀ v' w', OwnB w' B v' (l ++ List.replicate m 0) → Ext0 w w' v v' → wpList Tryz.prog ops Q rest (a.put q.dst v') w') : wpList Tryz.prog ops Q (q :: rest) a w := by
  refine wpList_plain hgd fun K hK => ?_
  subst hM
  obtain ⟨v', w', hrun, h1, h2⟩ := run_appZ w q.type B v l hown m hn hB
  unfold Oper.wp execOp
  simp only [ho, resolve, invoke, builtin, Sem.run_bind, Sem.run_pure, Result.andThen_ok, List.map_toArray, List.map_cons, List.map_nil, hs, hx, hrun]
  exact hK _ _ (h v' w' h1 h2)
theorem ext0_gr {W w w' : World} {v u : Value} {B : Nat} {l : List UInt8} (hg : W.grownBy w none) (h : Ext0 w w' v u) (ho : OwnB w B v l) (hB : W.heap.size ≤ B) : W.grownBy w' none := by
  obtain ⟨r, g, hr, _⟩ := h
  exact gr_trans hg g (.inr fun k e => Nat.le_trans hB (Own.blk_lt ho (by omega) (hr k e)).1)
theorem sector_any (v : Value) (m : List UInt32) (w : World) (h : Rd w 1 v m.length (m.map fun x => .int .u32 x.toNat)) (hm : m.length ≤ 15) :
    Calls Tryz.prog 70 #[v] w fun e w' => (∃ v', e = .returned v' ∧ OwnB w' w.heap.size v' (fieldsB m ++ List.replicate (60 - 4 * m.length) 0 ++ le (crcS (fieldsB m ++ List.replicate (60 - 4 * m.length) 0)) 4)) ∧ w.grownBy w' none := by
  obtain ⟨_, A, c, g, off, rfl, _, _, _, hA, hx⟩ := h
  have HA := Lib.hid hA
  have HX := Lib.hid hx
  clear hA hx
  go_enter Tryz.func70, Tryz.ntmps70
  go_wp2
  go_loopw [3, 5, 8] (fun u _ i wr => ∃ k : Nat, k ≤ m.length ∧ i = .int .i64 k ∧ OwnB wr w.heap.size u (fieldsB (m.take k)) ∧ w.grownBy wr none) (fun _ _ i _ => m.length - (intOf i).toNat)
  case atStart => exact ⟨0, by omega, rfl, by simpa [fieldsB] using OwnB.nil _ _, gr_refl _ _⟩
  case round =>
    obtain ⟨k, hk, rfl, hown, hg⟩ := hrel
    have hfl := fieldsB_len (m.take k)
    rw [List.length_take] at hfl
    by_cases hlt : k < m.length
    · obtain rfl := HA.out (by omega)
      have hc0 : w.cell? ⟨g, off + k, none⟩ = some (.int .u32 m[k].toNat) := by rw [HX.out k (by omega)]; simp [hlt]
      have hc := hg.cell hc0 (by simp)
      have hsn := fieldsB_snoc hlt
      have HSN := Lib.hid hsn
      have hxl := m[k].toNat_lt
      have HO := Lib.hid hown
      have HG := Lib.hid hg
      clear hc0 hsn hown hg
      generalize m[k].toNat = x at *
      go_wp2_with fail
      refine (put_any x 4 _ (fieldsB (m.take k)) _ (by omega) (by omega) (by omega) HO.out.rd).mono ?_
      rintro e w1 ⟨v1, rfl, o1, g1⟩
      have O1 : Hid (OwnB w1 w.heap.size v1 (fieldsB (m.take (k + 1)))) := by show OwnB _ _ _ _; rw [HSN.out]; exact o1.mono HG.out.size
      have G1 := Lib.hid (gr_none HG.out g1)
      clear o1 g1
      go_wp2
      go_roundw
      case rel => exact ⟨k + 1, by omega, by go_num, O1.out, G1.out⟩
      case measure => simp [intOf]; omega
    · obtain rfl : k = m.length := by omega
      rw [List.take_length] at hown hfl
      obtain ⟨A1, c1, rfl⟩ := hown.rd.form
      have HO := Lib.hid hown
      have HG := Lib.hid hg
      have hf15 : (fieldsB m).length ≤ 60 := by omega
      clear hown hg
      go_wp2_with (refine wp_appZ rfl (.tmp 17) (.tmp 20) rfl rfl HO.out (60 - 4 * m.length) (by omega) rfl (by omega) HG.out.size ?_; intro v2 w2 ho2 hx2)
      have hl2 : (fieldsB m ++ List.replicate (60 - 4 * m.length) (0 : UInt8)).length = 60 := by simp; omega
      have G2 := Lib.hid (ext0_gr HG.out hx2 HO.out (Nat.le_refl _))
      have HO2 := Lib.hid ho2
      have hcl := crcE_lt 0 (fieldsB m ++ List.replicate (60 - 4 * m.length) (0 : UInt8))
      clear ho2 hx2
      go_wp2_with fail
      refine (sum_any _ _ _ HO2.out.rd (by omega)).mono ?_
      rintro e w3 ⟨rfl, g3⟩
      have HO3 := Lib.hid (HO2.out.ext g3)
      have G3 := Lib.hid (gr_none G2.out g3)
      have hcl' : crcS (fieldsB m ++ List.replicate (60 - 4 * m.length) (0 : UInt8)) < 2 ^ 64 := by unfold crcS; omega
      clear g3
      generalize hxx : crcS (fieldsB m ++ List.replicate (60 - 4 * m.length) (0 : UInt8)) = x at *
      have HXX := Lib.hid hxx
      clear hxx
      go_wp2_with fail
      refine (put_any x 4 _ _ _ hcl' (by omega) (by omega) HO3.out.rd).mono ?_
      rintro e w4 ⟨v4, rfl, o4, g4⟩
      have O4 := Lib.hid (o4.mono G3.out.size)
      have G4 := Lib.hid (gr_none G3.out g4)
      clear o4 g4
      go_wp2
      go_ret
      exact ⟨⟨v4, rfl, by rw [HXX.out]; exact O4.out⟩, G4.out⟩
end Go.Proofs.YtipankjajdpiiaaGreat

/- journal.read, and the reference's Read. -/
namespace Go.Proofs.YtipankjajdpiiaaGreat
open Go.RowKit
set_option maxRecDepth 100000
set_option maxHeartbeats 400000

theorem sector_as (v : Value) (n : Nat) (r : Rc) (w : World) (m : List UInt32) (hm : m.length ≤ 15) (he : fieldsB m ++ List.replicate (60 - 4 * m.length) 0 = secH n r) (h : Rd w 1 v m.length (m.map fun x => .int .u32 x.toNat)) :
    Calls Tryz.prog 70 #[v] w fun e w' => (∃ v', e = .returned v' ∧ OwnB w' w.heap.size v' (secB n r)) ∧ w.grownBy w' none := by
  have := sector_any v m w h hm
  rw [he] at this
  exact this
/-- a sector, as journal makes it. -/
theorem sector_rec (v : Value) (n : Nat) (hn : n < 4294967296) (r : Rc) (w : World) (h : Rd w 1 v 4 [.int .u32 n, .int .u32 r.k.toNat, .int .u32 r.a.toNat, .int .u32 r.b.toNat]) :
    Calls Tryz.prog 70 #[v] w fun e w' => (∃ v', e = .returned v' ∧ OwnB w' w.heap.size v' (secB n r)) ∧ w.grownBy w' none := by
  have e : (UInt32.ofNat n).toNat = n := by simp; omega
  refine sector_as v n r w [UInt32.ofNat n, r.k, r.a, r.b] (by simp) ?_ ?_
  · unfold fieldsB secH
    simp only [List.flatMap_cons, List.flatMap_nil, List.append_nil, List.length_cons, List.length_nil, e, List.append_assoc]
  · simpa [e] using h
theorem readF_stop {f n : Nat} {b : List UInt8} (h : b.length < 64 ∨ 65536 ≤ n) : readF f n b = [] := by
  cases f with
  | zero => rfl
  | succ f => unfold readF; rw [if_neg (by omega)]
theorem readF_bad {f n : Nat} {b : List UInt8} (h : (recOf (b.take 64)).k = 0 ∨ b.take 64 ≠ secB (n + 1) (recOf (b.take 64))) : readF f n b = [] := by
  cases f with
  | zero => rfl
  | succ f => unfold readF; rw [if_pos h]; split <;> rfl
theorem readF_more {f n : Nat} {b : List UInt8} (h1 : 64 ≤ b.length) (h2 : n < 65536) (h : ¬ ((recOf (b.take 64)).k = 0 ∨ b.take 64 ≠ secB (n + 1) (recOf (b.take 64)))) : readF (f + 1) n b = recOf (b.take 64) :: readF f (n + 1) (b.drop 64) := by
  rw [readF, if_pos ⟨h1, h2⟩, if_neg h]
theorem recOf_k (s : List UInt8) : (recOf s).k.toNat = rdN ((s.drop 4).take 4) := by simp [recOf]; have := rd4_lt s 4; omega
theorem recOf_a (s : List UInt8) : (recOf s).a.toNat = rdN ((s.drop 8).take 4) := by simp [recOf]; have := rd4_lt s 8; omega
theorem recOf_b (s : List UInt8) : (recOf s).b.toNat = rdN ((s.drop 12).take 4) := by simp [recOf]; have := rd4_lt s 12; omega
def lenV0 : Value → Nat
  | .slice _ n _ => n
  | _ => 0
set_option maxHeartbeats 2000000 in
theorem jread_any (v : Value) (b : List UInt8) (w : World) (h : RdB w v b) (hb : b.length ≤ 1000000000) :
    Calls Tryz.prog 67 #[v] w fun e w' => (∃ v', e = .returned v' ∧ OwnR w' w.heap.size v' (readJ b)) ∧ w.grownBy w' none := by
  obtain ⟨A, c, rfl⟩ := h.form
  have H := Lib.hid h
  clear h
  go_enter Tryz.func67, Tryz.ntmps67
  go_wp2
  go_loopw [0, 3, 4, 5] (fun s u _ _ wr => ∃ (l : List Rc) (f : Nat) (b' : List UInt8) (A' : Option Addr) (c' : Nat), s = .slice A' b'.length c' ∧ RdB w (.slice A' b'.length c') b' ∧ b'.length ≤ b.length ∧ b'.length < f * 64 + 64 ∧ l ++ readF (f + 1) l.length b' = readJ b ∧ OwnR wr w.heap.size u l ∧ l.length ≤ 65536 ∧ w.grownBy wr none) (fun s _ _ _ _ => lenV0 s)
  case atStart => exact ⟨[], b.length, b, A, c, rfl, H.out, Nat.le_refl _, by omega, rfl, OwnR.nil _ _, by simp, gr_refl _ _⟩
  case round =>
    obtain ⟨l, f, b', A', c', rfl, hr, hbl, hfl, hrd, hown, hll, hg⟩ := hrel
    by_cases h64 : (64 : Int) ≤ (b'.length : Int)
    · by_cases hmost : (l.length : Int) < 65536
      · obtain ⟨Al, cl, rfl⟩ := hown.rd.form
        have hcap : b'.length ≤ c' := RdB.cap hr
        have hmx : c' ≤ maxLen := by obtain ⟨_, _, _, _, _, e, _, hm, _⟩ := hr; cases e; exact hm
        unfold maxLen at hmx
        have hs0 : RdB w (.slice A' 64 c') (b'.take 64) := by
          have := hr.take (k := 64) (by omega)
          exact this
        have hsl : (b'.take 64).length = 64 := by rw [List.length_take]; omega
        have hdr : RdB w (.slice (cutA A' c' 64 1) (b'.length - 64) (c' - 64)) (b'.drop 64) := hr.drop (by omega)
        have HS0 := Lib.hid hs0
        have HDR := Lib.hid hdr
        have HRD := Lib.hid hrd
        have HO := Lib.hid hown
        have HG := Lib.hid hg
        have HSL := Lib.hid hsl
        have k1 := recOf_k (b'.take 64)
        have k2 := recOf_a (b'.take 64)
        have k3 := recOf_b (b'.take 64)
        have HK1 := Lib.hid k1.symm
        have HK2 := Lib.hid k2.symm
        have HK3 := Lib.hid k3.symm
        clear hs0 hdr hrd hown hg hsl k1 k2 k3 hr
        go_wp2_with fail
        refine (field_any 4 _ (b'.take 64) _ (by rw [HSL.out]; omega) (by rw [HSL.out]; omega) (HS0.out.ext HG.out)).mono ?_
        rintro e w1 ⟨rfl, g1⟩
        have G1 := Lib.hid (gr_none HG.out g1)
        rw [HK1.out]
        go_wp2_with fail
        refine (field_any 8 _ (b'.take 64) _ (by rw [HSL.out]; omega) (by rw [HSL.out]; omega) (HS0.out.ext G1.out)).mono ?_
        rintro e w2 ⟨rfl, g2⟩
        have G2 := Lib.hid (gr_none G1.out g2)
        rw [HK2.out]
        go_wp2_with fail
        refine (field_any 12 _ (b'.take 64) _ (by rw [HSL.out]; omega) (by rw [HSL.out]; omega) (HS0.out.ext G2.out)).mono ?_
        rintro e w3 ⟨rfl, g3⟩
        have G3 := Lib.hid (gr_none G2.out g3)
        have HO3 := Lib.hid (((HO.out.ext g1).ext g2).ext g3)
        rw [HK3.out]
        clear g1 g2 g3
        obtain ⟨r, hr⟩ : ∃ r, r = recOf (b'.take 64) := ⟨_, rfl⟩
        rw [← hr]
        have HR := Lib.hid hr
        clear hr
        have hkl := r.k.toNat_lt
        by_cases hk0 : (r.k.toNat : Int) = 0
        · have hend : Hid (l = readJ b) := by
            show _ = _
            rw [← HRD.out, readF_bad (.inl ?_), List.append_nil]
            rw [← HR.out]
            exact UInt32.toNat_inj.1 (by simpa using hk0)
          have HE := Lib.hid hend.out
          go_wp2
          go_ret
          exact ⟨⟨_, rfl, by rw [← hend.out]; exact OwnR.ext HO3.out (gr_alloc _ _ none)⟩, gr_none G3.out (gr_alloc _ _ none)⟩
        · have hkb : ((r.k.toNat : Int) == 0) = false := by rw [beq_eq_false_iff_ne]; exact hk0
          have hr0 : Hid (r.k ≠ 0) := fun e => hk0 (by rw [e]; rfl)
          clear hk0
          have hal := r.a.toNat_lt
          have hbl2 := r.b.toNat_lt
          have hrdl := rd_lit (w3.alloc (.cells #[.int .u32 r.k.toNat, .int .u32 r.a.toNat, .int .u32 r.b.toNat] 38)) 1 4 4 #[.int .u32 ((l.length + 1 : Nat) : Int), .int .u32 r.k.toNat, .int .u32 r.a.toNat, .int .u32 r.b.toNat] 36 rfl (Nat.le_refl _) (by unfold maxLen; omega)
          have e1 : ((l.length + 1 : Nat) : Int) = (l.length : Int) + 1 := by omega
          rw [World.size_alloc, e1] at hrdl
          have hsec := sector_rec _ (l.length + 1) (by omega) r _ (by rw [e1]; exact hrdl)
          have HSEC := Lib.hid hsec
          have HBLK : Hid (Blk ((w3.alloc (.cells #[.int .u32 r.k.toNat, .int .u32 r.a.toNat, .int .u32 r.b.toNat] 38)).alloc (.cells #[.int .u32 ((l.length : Int) + 1), .int .u32 r.k.toNat, .int .u32 r.a.toNat, .int .u32 r.b.toNat] 36)) w3.heap.size 38 r.cells) := (Blk.new w3 _ _).ext (gr_alloc _ _ none)
          clear hrdl e1 hsec
          go_wp2_with fail
          refine HSEC.out.mono ?_
          rintro e w4 ⟨⟨v4, rfl, o4⟩, g4⟩
          have G4 := Lib.hid (gr_none (gr_none (gr_none G3.out (gr_alloc _ _ none)) (gr_alloc _ _ none)) g4)
          have HO4 := Lib.hid ((OwnR.ext (OwnR.ext HO3.out (gr_alloc _ _ none)) (gr_alloc _ _ none)).ext g4)
          have HB4 := Lib.hid (HBLK.out.ext g4)
          have HV4 := Lib.hid o4
          clear o4 g4
          go_wp2_with fail
          refine (equalB_any _ _ (b'.take 64) (secB (l.length + 1) r) _ (HS0.out.ext G4.out) HV4.out.rd (by rw [HSL.out]; omega) (by rw [secB_len]; omega)).mono ?_
          rintro e w5 ⟨⟨bb, rfl, hbb⟩, g5⟩
          have G5 := Lib.hid (gr_none G4.out g5)
          have HO5 := Lib.hid (HO4.out.ext g5)
          have hb5 := (HB4.out.ext g5).cell
          unfold Rc.cells at hb5
          have c0 : w5.cell? ⟨w3.heap.size, 0, none⟩ = some (.int .u32 r.k.toNat) := hb5 0
          have c1 : w5.cell? ⟨w3.heap.size, 1, none⟩ = some (.int .u32 r.a.toNat) := hb5 1
          have c2 : w5.cell? ⟨w3.heap.size, 2, none⟩ = some (.int .u32 r.b.toNat) := hb5 2
          have HBB := Lib.hid hbb
          clear hbb g5 hb5
          cases bb
          · have hend : Hid (l = readJ b) := by
              show _ = _
              rw [← HRD.out, readF_bad (.inr ?_), List.append_nil]
              rw [← HR.out]
              intro e
              have := HBB.out.2 e
              cases this
            go_wp2
            go_ret
            exact ⟨⟨_, rfl, by rw [← hend.out]; exact HO5.out⟩, G5.out⟩
          · have hmore : Hid (l ++ [r] ++ readF f (l ++ [r]).length (b'.drop 64) = readJ b) := by
              show _ = _
              rw [← HRD.out, readF_more (by omega) (by omega) ?_, ← HR.out]
              · simp
              · rw [← HR.out]
                intro h
                rcases h with h | h
                · exact hr0.out h
                · exact h (HBB.out.1 rfl)
            have hbz := G5.out.size
            have hll2 : l.length ≤ 1000000000 := by omega
            have hdl : (b'.drop 64).length = b'.length - 64 := List.length_drop
            have HDL := Lib.hid hdl
            clear hdl
            go_wp2_with (at_builtin; refine wp_app1R r _ rfl rfl (.tmp 43) (.tmp 45) rfl rfl HO5.out _ rfl rfl hll2 hbz ?_; intro v6 w6 h6 g6 a6)
            have HO6 := Lib.hid h6
            have G6 := Lib.hid (gr_trans G5.out g6 (.inr fun k e => Own.lt HO5.out k e))
            clear h6 g6 a6 c0 c1 c2
            go_wp2
            go_roundw
            case rel =>
              refine ⟨l ++ [r], f - 1, b'.drop 64, cutA A' c' 64 1, c' - 64, by rw [HDL.out], by rw [HDL.out]; exact HDR.out, by rw [HDL.out]; omega, by rw [HDL.out]; omega, ?_, HO6.out, by simp; omega, G6.out⟩
              rcases Nat.eq_zero_or_pos f with h0 | h0
              · subst h0
                have := hmore.out
                rw [readF_stop (.inl (by rw [HDL.out]; omega))] at this ⊢
                exact this
              · rw [show f - 1 + 1 = f from by omega]; exact hmore.out
            case measure => simp [lenV0]; omega
      · have hend : Hid (l = readJ b) := by show _ = _; rw [← hrd, readF_stop (.inr (by omega)), List.append_nil]
        have HG := Lib.hid hg
        obtain ⟨Al, cl, rfl⟩ := hown.rd.form
        have HO := Lib.hid hown
        clear hrd hown hg
        go_wp2
        go_ret
        exact ⟨⟨_, rfl, by rw [← hend.out]; exact HO.out⟩, HG.out⟩
    · have hend : Hid (l = readJ b) := by show _ = _; rw [← hrd, readF_stop (.inl (by omega)), List.append_nil]
      have HG := Lib.hid hg
      obtain ⟨Al, cl, rfl⟩ := hown.rd.form
      have HO := Lib.hid hown
      clear hrd hown hg
      go_wp2
      go_ret
      exact ⟨⟨_, rfl, by rw [← hend.out]; exact HO.out⟩, HG.out⟩
end Go.Proofs.YtipankjajdpiiaaGreat
