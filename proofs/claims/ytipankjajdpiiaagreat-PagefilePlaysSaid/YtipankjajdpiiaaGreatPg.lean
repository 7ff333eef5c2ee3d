/-
  Records of a journal: in memory, and as a sector's bytes.
-/
import Derived.Test.YtipankjajdpiiaaGreatCrc
import Derived.Test.YtipankjajdpiiaaGreatRef
import Derived.Test.YtipankjajdpiiaaGreatPfP
import Derived.Test.YtipankjajdpiiaaGreatOct
import Derived.Deep.RegionHeld3
namespace Go.Proofs.YtipankjajdpiiaaGreat
open Go.RowKit
set_option maxRecDepth 100000
set_option maxHeartbeats 400000

structure Rc where
  k : UInt32
  a : UInt32
  b : UInt32
def Rc.cells (r : Rc) : Array Value := #[.int .u32 r.k.toNat, .int .u32 r.a.toNat, .int .u32 r.b.toNat]
def rcL (l : List Rc) : List Value := l.flatMap fun r => r.cells.toList
def OwnR (w : World) (B : Nat) (v : Value) (l : List Rc) : Prop := Own w B 3 v l.length (rcL l)
def RdR (w : World) (v : Value) (l : List Rc) : Prop := Rd w 3 v l.length (rcL l)
theorem rcL_len (l : List Rc) : (rcL l).length = l.length * 3 := by
  induction l with
  | nil => rfl
  | cons r l ih =>
    have e : rcL (r :: l) = r.cells.toList ++ rcL l := rfl
    rw [e, List.length_append, ih]
    simp [Rc.cells]
    omega
theorem rcL_append (l m : List Rc) : rcL (l ++ m) = rcL l ++ rcL m := by simp [rcL]
theorem rcL_at (l : List Rc) {k j : Nat} (hk : k < l.length) (hj : j < 3) : (rcL l)[k * 3 + j]? = (l[k].cells)[j]? := by
  induction l generalizing k with
  | nil => simp at hk
  | cons r l ih =>
    have e : rcL (r :: l) = r.cells.toList ++ rcL l := rfl
    have hl : r.cells.toList.length = 3 := rfl
    cases k with
    | zero =>
      rw [e, List.getElem?_append_left (by omega)]
      simp
    | succ k =>
      rw [e, List.getElem?_append_right (by omega), hl, show (k + 1) * 3 + j - 3 = k * 3 + j from by omega]
      exact ih (by simpa using hk)
theorem rc_one (l : List Rc) : ∀ u ∈ rcL l, u.oneCell' = true := by
  intro u hu
  obtain ⟨r, _, h⟩ := List.mem_flatMap.1 hu
  simp [Rc.cells] at h
  rcases h with rfl | rfl | rfl <;> rfl
section
variable {w w' : World} {B : Nat} {v : Value} {l : List Rc}
theorem OwnR.rd (h : OwnR w B v l) : RdR w v l := Own.rd h
theorem OwnR.nil (w : World) (B : Nat) : OwnR w B (.slice none 0 0) [] := Own.nil _ _ _
theorem RdR.ext (h : RdR w v l) (hg : w.grownBy w' none) : RdR w' v l := Rd.ext h hg
theorem OwnR.ext (h : OwnR w B v l) (hg : w.grownBy w' none) : OwnR w' B v l := Own.ext h hg
theorem RdR.form (h : RdR w v l) : ∃ A c, v = .slice A l.length c := by obtain ⟨_, A, c, _, _, e, _⟩ := h; exact ⟨A, c, e⟩
theorem RdR.at_ {A : Option Addr} {c : Nat} (h : RdR w (.slice A l.length c) l) : ∃ g off, (0 < l.length → A = some ⟨g, off, none⟩) ∧ l.length ≤ c ∧ c ≤ maxLen ∧ ∀ k (hk : k < l.length), ∀ j, j < 3 → w.cell? ⟨g, off + k * 3 + j, none⟩ = (l[k].cells)[j]? := by
  obtain ⟨_, _, _, g, off, e, hn, hc, _, hA, hx⟩ := h
  cases e
  refine ⟨g, off, fun h0 => hA (by omega), hn, hc, fun k hk j hj => ?_⟩
  rw [Nat.add_assoc, hx _ (by omega), rcL_at l hk hj]
end
theorem ownR_app {w : World} {B : Nat} {v : Value} {l m : List Rc} (h : Own w B 3 v (l.length + m.length) (rcL l ++ rcL m)) : OwnR w B v (l ++ m) := by
  unfold OwnR; rw [List.length_append, rcL_append]; exact h
theorem Tryz.infoR : (Tryz.prog.info? 38).map (fun i => (i.zero, i.size, i.bytes)) = some (some (.agg #[.int .u32 0, .int .u32 0, .int .u32 0]), 3, 12) := by kernel_rfl
/-- append(v, x...) of records. -/
theorem wp_appR {ops : Array Oper} {rest : List Oper} {o : Oper} {a : Act} {Q : Exit → Act → World → Prop} {w : World} (hgd : o.guard = none) (s0 x0 : Operand)
    (ho : o.op = .call { callee := .builtin .append, args := #[s0, x0], argTypes := #[46, 46] }) {B : Nat} {v x : Value} {l m : List Rc} (hs : a.eval s0 = v) (hown : OwnR w B v l)
    (hx : a.eval x0 = x) (hr : RdR w x m) (hn : l.length + m.length ≤ 1000000000) (hB : B ≤ w.heap.size)
    (h : ∀ v' w', OwnR w' B v' (l ++ m) → w.grownBy w' v.ownBlock → (v'.ownBlock = v.ownBlock ∨ ∃ k, v'.ownBlock = some k ∧ w.heap.size ≤ k) → wpList Tryz.prog ops Q rest (a.put o.dst v') w') :
    wpList Tryz.prog ops Q (o :: rest) a w :=
  wp_app w hgd s0 x0 _ ho B 38 _ 3 12 Tryz.underlying46 Tryz.infoR rfl (by omega) v _ _ hs hown x _ _ hx hr (rc_one m) (by unfold maxLen; omega) (by omega) hB
    fun v' w' h1 h2 h3 => h v' w' (ownR_app h1) h2 h3
/-- append(v, x), x one record that was laid just ahead. -/
theorem wp_app1R {ops : Array Oper} {rest : List Oper} {o : Oper} {a : Act} {Q : Exit → Act → World → Prop} {w : World} (r : Rc) (C : Array Value) (hC : C = r.cells) (hgd : o.guard = none) (s0 x0 : Operand)
    (ho : o.op = .call { callee := .builtin .append, args := #[s0, x0], argTypes := #[46, 46] }) {B : Nat} {v : Value} {l : List Rc} (hs : a.eval s0 = v) (hown : OwnR w B v l)
    (g : Nat) (hx : a.eval x0 = .slice (some ⟨g, 0, none⟩) 1 1) (hg : g = w.heap.size) (hn : l.length ≤ 1000000000) (hB : B ≤ w.heap.size)
    (h : ∀ v' w', OwnR w' B v' (l ++ [r]) → w.grownBy w' v.ownBlock → (v'.ownBlock = v.ownBlock ∨ ∃ k, v'.ownBlock = some k ∧ w.heap.size ≤ k) → wpList Tryz.prog ops Q rest (a.put o.dst v') w') :
    wpList Tryz.prog ops Q (o :: rest) a (w.alloc (.cells C 38)) := by
  subst hC hg
  have he : rcL [r] = r.cells.toList := by simp [rcL]
  exact wp_app1 w r.cells hgd s0 x0 _ ho B 38 _ 3 12 Tryz.underlying46 Tryz.infoR rfl (by omega) v _ _ hs hown hx rfl (by rw [← he]; exact rc_one [r]) (by unfold maxLen; omega) (by omega) hB
    fun v' w' h1 h2 h3 => h v' w' (ownR_app (m := [r]) (by rw [he]; exact h1)) h2 h3

/-! as bytes -/
def secH (n : Nat) (r : Rc) : List UInt8 := le n 4 ++ le r.k.toNat 4 ++ le r.a.toNat 4 ++ le r.b.toNat 4 ++ List.replicate 44 0
def secB (n : Nat) (r : Rc) : List UInt8 := secH n r ++ le (crcS (secH n r)) 4
theorem secH_len (n : Nat) (r : Rc) : (secH n r).length = 60 := by simp [secH, length_le]
theorem secB_len (n : Nat) (r : Rc) : (secB n r).length = 64 := by simp [secB, secH_len, length_le]
def recOf (s : List UInt8) : Rc := ⟨UInt32.ofNat (rdN ((s.drop 4).take 4)), UInt32.ofNat (rdN ((s.drop 8).take 4)), UInt32.ofNat (rdN ((s.drop 12).take 4))⟩
/-- the records with which bytes begin, n of them read. -/
def readF : Nat → Nat → List UInt8 → List Rc
  | 0, _, _ => []
  | f + 1, n, b => if 64 ≤ b.length ∧ n < 65536 then (if (recOf (b.take 64)).k = 0 ∨ b.take 64 ≠ secB (n + 1) (recOf (b.take 64)) then [] else recOf (b.take 64) :: readF f (n + 1) (b.drop 64)) else []
def readJ (b : List UInt8) : List Rc := readF (b.length + 1) 0 b
end Go.Proofs.YtipankjajdpiiaaGreat

/- journal: field, sector, and slices.Equal of bytes. -/
namespace Go.Proofs.YtipankjajdpiiaaGreat
open Go.RowKit
set_option maxRecDepth 100000
set_option maxHeartbeats 400000

theorem rd4_lt (l : List UInt8) (i : Nat) : rdN ((l.drop i).take 4) < 4294967296 := rdN_take_lt (l.drop i) 4
theorem field_any (at_ : Nat) (v : Value) (l : List UInt8) (w : World) (hn : at_ + 4 ≤ l.length) (hl : l.length ≤ 1000000000) (h : RdB w v l) :
    Calls Tryz.prog 101 #[v, .int .i64 at_] w fun e w' => e = .returned (.int .u32 (rdN ((l.drop at_).take 4))) ∧ w.grownBy w' none := by
  have hg := get_any at_ 4 v l w (by omega) hn hl h
  have hlt := rd4_lt l at_
  generalize rdN ((l.drop at_).take 4) = x at *
  have HG := Lib.hid hg
  clear hg h
  go_enter Tryz.func101, Tryz.ntmps101
  go_wp2_with (go_at_call 126; refine HG.out.mono ?_; rintro e w1 ⟨rfl, g1⟩)
  go_ret
  exact ⟨by rw [show ((x : Int) = (x : Int) % 4294967296) from by omega]; rfl, g1⟩
theorem equalB_any (v v' : Value) (l l' : List UInt8) (w : World) (h : RdB w v l) (h' : RdB w v' l') (_hl : l.length ≤ 1000000000) (_hl' : l'.length ≤ 1000000000) :
    Calls Tryz.prog 102 #[v, v'] w fun e w' => (∃ b, e = .returned (.bool b) ∧ (b = true ↔ l = l')) ∧ w.grownBy w' none := by
  obtain ⟨_, A, c, g, off, rfl, _, _, _, hA, hx⟩ := h
  obtain ⟨_, A', c', g', off', rfl, _, _, _, hA', hx'⟩ := h'
  have HA := Lib.hid hA
  have HX := Lib.hid hx
  have HA' := Lib.hid hA'
  have HX' := Lib.hid hx'
  clear hA hx hA' hx'
  by_cases hll : l.length = l'.length
  · have hb : ((l.length : Int) != (l'.length : Int)) = false := by rw [bne_eq_false_iff_eq]; omega
    have hl1 : l.length ≤ l'.length := by omega
    have hl2 : l'.length ≤ l.length := by omega
    have HLL := Lib.hid hll
    clear hll
    go_enter Tryz.func102, Tryz.ntmps102
    go_wp2
    go_loopw [5, 13] (fun _ i wr => ∃ k : Nat, k ≤ l.length ∧ i = .int .i64 k ∧ l.take k = l'.take k ∧ w.grownBy wr none) (fun _ i _ => l.length - (intOf i).toNat)
    case atStart => exact ⟨0, by omega, rfl, by simp, gr_refl _ _⟩
    case round =>
      obtain ⟨k, hk, rfl, hall, hg⟩ := hrel
      have Hall := Lib.hid hall
      clear hall
      by_cases hlt : k < l.length
      · obtain rfl := HA.out (by omega)
        obtain rfl := HA'.out (by omega)
        have hc1 : w.cell? ⟨g, off + k, none⟩ = some (.int .u8 l[k].toNat) := by rw [HX.out k (by omega)]; simp [u8v, hlt]
        have hc2 : w.cell? ⟨g', off' + k, none⟩ = some (.int .u8 (l'[k]'(by omega)).toNat) := by rw [HX'.out k (by omega)]; simp [u8v, show k < l'.length by omega]
        have hd1 := hg.cell hc1 (by simp)
        have hd2 := hg.cell hc2 (by simp)
        have hkc : (k : Int) < (l'.length : Int) := by omega
        by_cases he : l[k] = l'[k]'(by omega)
        · have hne : (((l[k]).toNat : Int) != ((l'[k]'(by omega)).toNat : Int)) = false := by rw [bne_eq_false_iff_eq, he]
          have hst : Hid (l.take (k + 1) = l'.take (k + 1)) := by show _ = _; rw [take_snoc hlt, take_snoc (show k < l'.length by omega), Hall.out, he]
          have hx1 := l[k].toNat_lt
          have hx2 := (l'[k]'(by omega)).toNat_lt
          clear he hc1 hc2
          generalize (l'[k]'(by omega)).toNat = y at *
          generalize l[k].toNat = x at *
          go_wp2_with fail
          go_quiet (fail)
          go_wp2
          go_roundw
          case rel => exact ⟨k + 1, by omega, by go_num, hst.out, gr_none hg (gr_drewN _ _ _)⟩
          case measure => simp [intOf]; omega
        · have hne : (((l[k]).toNat : Int) != ((l'[k]'(by omega)).toNat : Int)) = true := by
            rw [bne_iff_ne]
            intro e
            exact he (UInt8.toNat_inj.1 (by omega))
          have hno : Hid (l ≠ l') := fun e => by subst e; exact he rfl
          have hx1 := l[k].toNat_lt
          have hx2 := (l'[k]'(by omega)).toNat_lt
          clear he hc1 hc2
          generalize (l'[k]'(by omega)).toNat = y at *
          generalize l[k].toNat = x at *
          go_wp2_with fail
          go_quiet (fail)
          go_wp2
          go_ret
          exact ⟨⟨false, rfl, by simpa using hno.out⟩, gr_none hg (gr_drewN _ _ _)⟩
      · obtain rfl : k = l.length := by omega
        go_wp2
        go_ret
        exact ⟨⟨true, rfl, by simp; have := Hall.out; rw [List.take_length, List.take_of_length_le (by omega)] at this; exact this⟩, hg⟩
  · have hb : ((l.length : Int) != (l'.length : Int)) = true := by rw [bne_iff_ne]; omega
    have HNE : Hid (l ≠ l') := fun e => hll (by rw [e])
    clear hll
    go_enter Tryz.func102, Tryz.ntmps102
    go_wp2
    go_ret
    exact ⟨⟨false, rfl, by simpa using HNE.out⟩, gr_refl _ _⟩
def fieldsB (m : List UInt32) : List UInt8 := m.flatMap fun x => le x.toNat 4
theorem fieldsB_len (m : List UInt32) : (fieldsB m).length = 4 * m.length := by
  induction m with
  | nil => rfl
  | cons x m ih =>
    have e : fieldsB (x :: m) = le x.toNat 4 ++ fieldsB m := rfl
    rw [e, List.length_append, ih, length_le, List.length_cons]
    omega
theorem fieldsB_snoc {m : List UInt32} {k : Nat} (hk : k < m.length) : fieldsB (m.take (k + 1)) = fieldsB (m.take k) ++ le m[k].toNat 4 := by
  unfold fieldsB
  rw [List.take_succ_eq_append_getElem hk, List.flatMap_append]
  congr 1
/-- append of noughts, at the operation. -/
theorem wp_appZ {ops : Array Oper} {rest : List Oper} {q : Oper} {a : Act} {Q : Exit → Act → World → Prop} {w : World} (hgd : q.guard = none) (s0 x0 : Operand)
    (ho : q.op = .call { callee := .builtin .append, args := #[s0, x0], argTypes := #[40, 3] }) {B : Nat} {v : Value} {l : List UInt8} (hs : a.eval s0 = v) (hown : OwnB w B v l) {M : Int} (m : Nat) (hM : M = (m : Int)) (hx : a.eval x0 = .int .i64 M)
    (hn : l.length + m ≤ 70000000000000) (hB : B ≤ w.heap.size)
    (h : ∀ v' w', OwnB w' B v' (l ++ List.replicate m 0) → Ext0 w w' v v' → wpList Tryz.prog ops Q rest (a.put q.dst v') w') : wpList Tryz.prog ops Q (q :: rest) a w := by
  refine wpList_plain hgd fun K hK => ?_
  subst hM
  obtain ⟨v', w', hrun, h1, h2⟩ := run_appZ w q.type B v l hown m hn hB
  unfold Oper.wp execOp
  simp only [ho, resolve, invoke, builtin, Sem.run_bind, Sem.run_pure, Result.andThen_ok, List.map_toArray, List.map_cons, List.map_nil, hs, hx, hrun]
  exact hK _ _ (h v' w' h1 h2)
theorem ext0_gr {W w w' : World} {v u : Value} {B : Nat} {l : List UInt8} (hg : W.grownBy w none) (h : Ext0 w w' v u) (ho : OwnB w B v l) (hB : W.heap.size ≤ B) : W.grownBy w' none := by
  obtain ⟨r, g, hr, _⟩ := h
  exact gr_trans hg g (.inr fun k e => Nat.le_trans hB (Own.blk_lt ho (by omega) (hr k e)).1)
theorem sector_any (v : Value) (m : List UInt32) (w : World) (h : Rd w 1 v m.length (m.map fun x => .int .u32 x.toNat)) (hm : m.length ≤ 15) :
    Calls Tryz.prog 70 #[v] w fun e w' => (∃ v', e = .returned v' ∧ OwnB w' w.heap.size v' (fieldsB m ++ List.replicate (60 - 4 * m.length) 0 ++ le (crcS (fieldsB m ++ List.replicate (60 - 4 * m.length) 0)) 4)) ∧ w.grownBy w' none := by
  obtain ⟨_, A, c, g, off, rfl, _, _, _, hA, hx⟩ := h
  have HA := Lib.hid hA
  have HX := Lib.hid hx
  clear hA hx
  go_enter Tryz.func70, Tryz.ntmps70
  go_wp2
  go_loopw [3, 5, 8] (fun u _ i wr => ∃ k : Nat, k ≤ m.length ∧ i = .int .i64 k ∧ OwnB wr w.heap.size u (fieldsB (m.take k)) ∧ w.grownBy wr none) (fun _ _ i _ => m.length - (intOf i).toNat)
  case atStart => exact ⟨0, by omega, rfl, by simpa [fieldsB] using OwnB.nil _ _, gr_refl _ _⟩
  case round =>
    obtain ⟨k, hk, rfl, hown, hg⟩ := hrel
    have hfl := fieldsB_len (m.take k)
    rw [List.length_take] at hfl
    by_cases hlt : k < m.length
    · obtain rfl := HA.out (by omega)
      have hc0 : w.cell? ⟨g, off + k, none⟩ = some (.int .u32 m[k].toNat) := by rw [HX.out k (by omega)]; simp [hlt]
      have hc := hg.cell hc0 (by simp)
      have hsn := fieldsB_snoc hlt
      have HSN := Lib.hid hsn
      have hxl := m[k].toNat_lt
      have HO := Lib.hid hown
      have HG := Lib.hid hg
      clear hc0 hsn hown hg
      generalize m[k].toNat = x at *
      go_wp2_with fail
      refine (put_any x 4 _ (fieldsB (m.take k)) _ (by omega) (by omega) (by omega) HO.out.rd).mono ?_
      rintro e w1 ⟨v1, rfl, o1, g1⟩
      have O1 : Hid (OwnB w1 w.heap.size v1 (fieldsB (m.take (k + 1)))) := by show OwnB _ _ _ _; rw [HSN.out]; exact o1.mono HG.out.size
      have G1 := Lib.hid (gr_none HG.out g1)
      clear o1 g1
      go_wp2
      go_roundw
      case rel => exact ⟨k + 1, by omega, by go_num, O1.out, G1.out⟩
      case measure => simp [intOf]; omega
    · obtain rfl : k = m.length := by omega
      rw [List.take_length] at hown hfl
      obtain ⟨A1, c1, rfl⟩ := hown.rd.form
      have HO := Lib.hid hown
      have HG := Lib.hid hg
      have hf15 : (fieldsB m).length ≤ 60 := by omega
      clear hown hg
      go_wp2_with (refine wp_appZ rfl (.tmp 17) (.tmp 20) rfl rfl HO.out (60 - 4 * m.length) (by omega) rfl (by omega) HG.out.size ?_; intro v2 w2 ho2 hx2)
      have hl2 : (fieldsB m ++ List.replicate (60 - 4 * m.length) (0 : UInt8)).length = 60 := by simp; omega
      have G2 := Lib.hid (ext0_gr HG.out hx2 HO.out (Nat.le_refl _))
      have HO2 := Lib.hid ho2
      have hcl := crcE_lt 0 (fieldsB m ++ List.replicate (60 - 4 * m.length) (0 : UInt8))
      clear ho2 hx2
      go_wp2_with fail
      refine (sum_any _ _ _ HO2.out.rd (by omega)).mono ?_
      rintro e w3 ⟨rfl, g3⟩
      have HO3 := Lib.hid (HO2.out.ext g3)
      have G3 := Lib.hid (gr_none G2.out g3)
      have hcl' : crcS (fieldsB m ++ List.replicate (60 - 4 * m.length) (0 : UInt8)) < 2 ^ 64 := by unfold crcS; omega
      clear g3
      generalize hxx : crcS (fieldsB m ++ List.replicate (60 - 4 * m.length) (0 : UInt8)) = x at *
      have HXX := Lib.hid hxx
      clear hxx
      go_wp2_with fail
      refine (put_any x 4 _ _ _ hcl' (by omega) (by omega) HO3.out.rd).mono ?_
      rintro e w4 ⟨v4, rfl, o4, g4⟩
      have O4 := Lib.hid (o4.mono G3.out.size)
      have G4 := Lib.hid (gr_none G3.out g4)
      clear o4 g4
      go_wp2
      go_ret
      exact ⟨⟨v4, rfl, by rw [HXX.out]; exact O4.out⟩, G4.out⟩
end Go.Proofs.YtipankjajdpiiaaGreat

/- Pages in memory: page.Make and page.Tag. -/
namespace Go.Proofs.YtipankjajdpiiaaGreat
open Go.RowKit
set_option maxRecDepth 100000
set_option maxHeartbeats 400000

theorem head_i (A B C D : Int) (a b c d : Nat) (hA : A = (a : Int)) (hB : B = (b : Int)) (hC : C = (c : Int)) (hD : D = (d : Int)) (ha : a < 2 ^ 64) (hb : b < 2 ^ 64) (hc : c < 2 ^ 64) (hd : d < 2 ^ 64) (w : World) :
    Calls Tryz.prog 119 #[.agg #[.int .u64 A, .int .u64 B, .int .u64 C, .int .u64 D]] w fun e w' => (∃ v', e = .returned v' ∧ OwnB w' w.heap.size v' (le a 4 ++ le b 4 ++ le c 2 ++ le d 2)) ∧ w.grownBy w' none := by
  have kk : ∀ wx, (w.alloc (.cells #[.int .u64 A, .int .u64 B, .int .u64 C, .int .u64 D] 167)).grownBy wx none → wx.cell? ⟨w.heap.size, 0, none⟩ = some (.int .u64 A) ∧ wx.cell? ⟨w.heap.size, 1, none⟩ = some (.int .u64 B) ∧ wx.cell? ⟨w.heap.size, 2, none⟩ = some (.int .u64 C) ∧ wx.cell? ⟨w.heap.size, 3, none⟩ = some (.int .u64 D) := fun wx hg =>
    have hb := (Blk.new w 167 #[.int .u64 A, .int .u64 B, .int .u64 C, .int .u64 D]).ext hg
    ⟨hb.cell 0, hb.cell 1, hb.cell 2, hb.cell 3⟩
  have KK := Lib.hid kk
  clear kk
  have P1 : Hid (∀ wx, Calls Tryz.prog 106 #[.slice none 0 0, .int .u64 A, .int .i64 4] wx fun e w' => ∃ v', e = .returned v' ∧ OwnB w' wx.heap.size v' (le a 4) ∧ wx.grownBy w' none) := fun wx =>
    put_i 4 A 4 a rfl hA (.slice none 0 0) [] wx ha (by omega) (by simp) (Rd.nil _ _)
  have P2 : Hid (∀ wx v1 B1, OwnB wx B1 v1 (le a 4) → Calls Tryz.prog 106 #[v1, .int .u64 B, .int .i64 4] wx fun e w' => ∃ v', e = .returned v' ∧ OwnB w' wx.heap.size v' (le a 4 ++ le b 4) ∧ wx.grownBy w' none) := fun wx v1 B1 h1 =>
    put_i 4 B 4 b rfl hB v1 _ wx hb (by omega) (by simp [length_le]) h1.rd
  have P3 : Hid (∀ wx v1 B1, OwnB wx B1 v1 (le a 4 ++ le b 4) → Calls Tryz.prog 106 #[v1, .int .u64 C, .int .i64 2] wx fun e w' => ∃ v', e = .returned v' ∧ OwnB w' wx.heap.size v' (le a 4 ++ le b 4 ++ le c 2) ∧ wx.grownBy w' none) := fun wx v1 B1 h1 =>
    put_i 2 C 2 c rfl hC v1 _ wx hc (by omega) (by simp [length_le]) h1.rd
  have P4 : Hid (∀ wx v1 B1, OwnB wx B1 v1 (le a 4 ++ le b 4 ++ le c 2) → Calls Tryz.prog 106 #[v1, .int .u64 D, .int .i64 2] wx fun e w' => ∃ v', e = .returned v' ∧ OwnB w' wx.heap.size v' (le a 4 ++ le b 4 ++ le c 2 ++ le d 2) ∧ wx.grownBy w' none) := fun wx v1 B1 h1 =>
    put_i 2 D 2 d rfl hD v1 _ wx hd (by omega) (by simp [length_le]) h1.rd
  clear hA hB hC hD ha hb hc hd
  go_enter Tryz.func119, Tryz.ntmps119
  go_wp2
  go_region_held3 (fun w' => w'.cell? ⟨w.heap.size, 0, none⟩ = some (.int .u64 A) ∧ w'.cell? ⟨w.heap.size, 1, none⟩ = some (.int .u64 B)) (go_keep) (first
    | (go_at_call 106; (with_reducible refine (P1.out _).mono ?_); rintro e w1 ⟨v1, rfl, o1, g1⟩; have kk1 := KK.out _ (gr_trans (gr_drew _ _) g1 (.inl rfl)))
    | (go_at_call 106; (with_reducible refine (P2.out _ _ _ o1).mono ?_); rintro e w2 ⟨v2, rfl, o2, g2⟩; have kk2 := KK.out _ (gr_none (gr_trans (gr_drew _ _) g1 (.inl rfl)) g2)))
  have G2 := Lib.hid (gr_none (gr_trans (gr_drew (w.alloc (.cells #[.int .u64 A, .int .u64 B, .int .u64 C, .int .u64 D] 167)) none) g1 (.inl rfl)) g2)
  clear kk1 g1 o1 g2
  go_wp2
  go_region_held3 (fun w' => w'.cell? ⟨w.heap.size, 2, none⟩ = some (.int .u64 C) ∧ w'.cell? ⟨w.heap.size, 3, none⟩ = some (.int .u64 D)) (go_keep) (first
    | (go_at_call 106; (with_reducible refine (P3.out _ _ _ (o2.ext (gr_drew _ _))).mono ?_); rintro e w3 ⟨v3, rfl, o3, g3⟩; have kk3 := KK.out _ (gr_none (gr_none G2.out (gr_drew _ _)) g3))
    | (go_at_call 106; (with_reducible refine (P4.out _ _ _ o3).mono ?_); rintro e w4 ⟨v4, rfl, o4, g4⟩; have kk4 := KK.out _ (gr_none (gr_none (gr_none G2.out (gr_drew _ _)) g3) g4)))
  have G4 := Lib.hid (gr_none (gr_none (gr_none G2.out (gr_drew _ _)) g3) g4)
  go_wp2
  go_ret
  exact ⟨⟨_, rfl, o4.mono (by have := (gr_none (gr_none G2.out (gr_drew _ none)) g3).size; simp at this ⊢; omega)⟩, gr_none (gr_alloc _ _ none) G4.out⟩
theorem tag_any (n : List UInt8) (hn : n.length ≤ 1000000000) (w : World) :
    Calls Tryz.prog 118 #[.string ⟨n.toArray⟩] w fun e w' => e = .returned (.int .u32 (crcS n)) ∧ w.grownBy w' none := by
  go_enter Tryz.func118, Tryz.ntmps118
  go_wp2_with (refine wp_bytes rfl (.tmp 3) rfl n rfl (by unfold maxLen; omega) ?_; rintro v1 w1 o1 g1 -)
  have O1 := Lib.hid o1
  have G1 := Lib.hid g1
  clear o1 g1
  go_wp2_with fail
  refine (sum_any _ _ _ O1.out.rd hn).mono ?_
  rintro e w2 ⟨rfl, g2⟩
  go_wp2
  go_ret
  exact ⟨rfl, gr_none G1.out g2⟩
theorem mk_many (tag k : Int) (v : Value) (b : List UInt8) (w : World) (h : RdB w v b) (hb : 240 < b.length) :
    Calls Tryz.prog 93 #[.int .u32 tag, .int .u32 k, v] w fun e w' => e = .returned (.tuple #[.slice none 0 0, .int .i64 9]) ∧ w = w' := by
  obtain ⟨A, c, rfl⟩ := h.form
  clear h
  go_enter Tryz.func93, Tryz.ntmps93
  go_wp2
  go_ret2
  exact ⟨rfl, rfl⟩
theorem gr_own {W w w' : World} {B s n : Nat} {v : Value} {xs : List Value} (hg : W.grownBy w none) (h : w.grownBy w' v.ownBlock) (ho : Own w B s v n xs) (hB : W.heap.size ≤ B) : W.grownBy w' none :=
  gr_trans hg h (.inr fun k e => Nat.le_trans hB (ho.lt k e))
set_option maxHeartbeats 2000000 in
theorem mk_any (tag k : Nat) (ht : tag < 4294967296) (hk : k < 4294967296) (v : Value) (b : List UInt8) (w : World) (h : RdB w v b) (hb : b.length ≤ 240) :
    Calls Tryz.prog 93 #[.int .u32 tag, .int .u32 k, v] w fun e w' => (∃ v', e = .returned (.tuple #[v', .int .i64 0]) ∧ OwnB w' w.heap.size v' (pagB tag k b)) ∧ w.grownBy w' none := by
  obtain ⟨A, c, rfl⟩ := h.form
  have H := Lib.hid h
  clear h
  have HH : Hid (∀ wx, Calls Tryz.prog 119 #[.agg #[.int .u64 tag, .int .u64 k, .int .u64 b.length, .int .u64 0]] wx fun e w' => (∃ v', e = .returned v' ∧ OwnB w' wx.heap.size v' (le tag 4 ++ le k 4 ++ le b.length 2 ++ le 0 2)) ∧ wx.grownBy w' none) := fun wx =>
    head_i tag k b.length 0 tag k b.length 0 rfl rfl rfl rfl (by omega) (by omega) (by omega) (by omega) wx
  obtain ⟨hd, hhd⟩ : ∃ hd, hd = le tag 4 ++ le k 4 ++ le b.length 2 ++ le 0 2 := ⟨_, rfl⟩
  have hdl : hd.length = 12 := by rw [hhd]; simp [length_le]
  have HL : Hid (hd ++ b ++ List.replicate (240 - b.length) 0 = pagH tag k b) := by show _ = _; rw [hhd]; simp [pagH, List.append_assoc]
  rw [← hhd] at HH
  clear hhd
  go_enter Tryz.func93, Tryz.ntmps93
  go_wp2_with fail
  refine (HH.out _).mono ?_
  rintro e w1 ⟨⟨v1, rfl, o1⟩, g1⟩
  have O1 := Lib.hid o1
  have G1 := Lib.hid g1
  clear o1 g1
  obtain ⟨l2, hl2⟩ : ∃ l2, l2 = hd ++ b := ⟨_, rfl⟩
  have hl3 : l2.length ≤ 12 + b.length := by rw [hl2, List.length_append, hdl]; omega
  have hl4 : 12 + b.length ≤ l2.length := by rw [hl2, List.length_append, hdl]; omega
  have HL2 := Lib.hid hl2
  rw [← hl2] at HL
  clear hl2
  have HA2 : Hid (∀ w2 v2, OwnB w2 w.heap.size v2 (hd ++ b) → ∃ A2 c2, v2 = .slice A2 l2.length c2 ∧ OwnB w2 w.heap.size (.slice A2 l2.length c2) l2) := fun w2 v2 h => by
    rw [← HL2.out] at h
    obtain ⟨A2, c2, rfl⟩ := h.rd.form
    exact ⟨A2, c2, rfl, h⟩
  go_wp2_with (first
    | (refine wp_appB (m := b) (l := hd) rfl (.tmp 20) (.tmp 21) rfl rfl O1.out rfl (H.out.ext G1.out) (by omega) G1.out.size ?_; rintro v2 w2 o2 g2 -; have G2 := Lib.hid (gr_own G1.out g2 O1.out (Nat.le_refl _)); obtain ⟨A2, c2, rfl, o2'⟩ := HA2.out _ _ o2; have O2 := Lib.hid o2'; clear o2 g2 o2')
    | (refine wp_appZ rfl (.tmp 23) (.tmp 26) rfl rfl O2.out (240 - b.length) (by omega) rfl (by omega) G2.out.size ?_; intro v3 w3 o3 g3))
  have G3 := Lib.hid (ext0_gr G2.out g3 O2.out (Nat.le_refl _))
  rw [HL.out] at o3
  have O3 := Lib.hid o3
  clear o3 g3
  go_wp2_with fail
  refine (sum_any _ _ _ O3.out.rd (by rw [pagH_len hb]; omega)).mono ?_
  rintro e w4 ⟨rfl, g4⟩
  have G4 := Lib.hid (gr_none G3.out g4)
  have O4 := Lib.hid (O3.out.ext g4)
  have hcl := crcE_lt 0 (pagH tag k b)
  clear g4
  have hcl' : crcS (pagH tag k b) < 2 ^ 64 := by unfold crcS; omega
  have hcl2 : crcS (pagH tag k b) < 4294967296 := by unfold crcS; omega
  generalize hxx : crcS (pagH tag k b) = x at *
  have HXX := Lib.hid hxx
  clear hxx hcl
  have HP := Lib.hid (put_i 4 (x : Int) 4 x rfl rfl v3 (pagH tag k b) w4 hcl' (by omega) (by rw [pagH_len hb]; omega) O4.out.rd)
  clear hcl'
  go_wp2_with fail
  refine HP.out.mono ?_
  rintro e w5 ⟨v5, rfl, o5, g5⟩
  go_wp2
  go_ret2
  refine ⟨⟨_, rfl, ?_⟩, gr_none G4.out g5⟩
  unfold pagB
  rw [HXX.out]
  exact o5.mono G4.out.size
end Go.Proofs.YtipankjajdpiiaaGreat
