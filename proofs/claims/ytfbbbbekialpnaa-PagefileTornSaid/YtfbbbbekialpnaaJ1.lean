/-
  journal: field, sector, and slices.Equal of bytes.
-/
import Derived.Test.YtfbbbbekialpnaaRec
namespace Go.Proofs.Ytfbbbbekialpnaa
open Go.RowKit
set_option maxRecDepth 100000
set_option maxHeartbeats 400000

theorem rd4_lt (l : List UInt8) (i : Nat) : rdN ((l.drop i).take 4) < 4294967296 := rdN_take_lt (l.drop i) 4
theorem field_any (at_ : Nat) (v : Value) (l : List UInt8) (w : World) (hn : at_ + 4 ≤ l.length) (hl : l.length ≤ 1000000000) (h : RdB w v l) :
    Calls Try.prog 101 #[v, .int .i64 at_] w fun e w' => e = .returned (.int .u32 (rdN ((l.drop at_).take 4))) ∧ w.grownBy w' none := by
  have hg := get_any at_ 4 v l w (by omega) hn hl h
  have hlt := rd4_lt l at_
  generalize rdN ((l.drop at_).take 4) = x at *
  have HG := Lib.hid hg
  clear hg h
  go_enter Try.func101, Try.ntmps101
  go_wp2_with (go_at_call 128; refine HG.out.mono ?_; rintro e w1 ⟨rfl, g1⟩)
  go_ret
  exact ⟨by rw [show ((x : Int) = (x : Int) % 4294967296) from by omega]; rfl, g1⟩
theorem equalB_any (v v' : Value) (l l' : List UInt8) (w : World) (h : RdB w v l) (h' : RdB w v' l') (_hl : l.length ≤ 1000000000) (_hl' : l'.length ≤ 1000000000) :
    Calls Try.prog 102 #[v, v'] w fun e w' => (∃ b, e = .returned (.bool b) ∧ (b = true ↔ l = l')) ∧ w.grownBy w' none := by
  obtain ⟨_, A, c, g, off, rfl, _, _, _, hA, hx⟩ := h
  obtain ⟨_, A', c', g', off', rfl, _, _, _, hA', hx'⟩ := h'
  have HA := Lib.hid hA
  have HX := Lib.hid hx
  have HA' := Lib.hid hA'
  have HX' := Lib.hid hx'
  clear hA hx hA' hx'
  by_cases hll : l.length = l'.length
  · have hb : ((l.length : Int) != (l'.length : Int)) = false := by rw [bne_eq_false_iff_eq]; omega
    have hl1 : l.length ≤ l'.length := by omega
    have hl2 : l'.length ≤ l.length := by omega
    have HLL := Lib.hid hll
    clear hll
    go_enter Try.func102, Try.ntmps102
    go_wp2
    go_loopw [5, 13] (fun _ i wr => ∃ k : Nat, k ≤ l.length ∧ i = .int .i64 k ∧ l.take k = l'.take k ∧ w.grownBy wr none) (fun _ i _ => l.length - (intOf i).toNat)
    case atStart => exact ⟨0, by omega, rfl, by simp, gr_refl _ _⟩
    case round =>
      obtain ⟨k, hk, rfl, hall, hg⟩ := hrel
      have Hall := Lib.hid hall
      clear hall
      by_cases hlt : k < l.length
      · obtain rfl := HA.out (by omega)
        obtain rfl := HA'.out (by omega)
        have hc1 : w.cell? ⟨g, off + k, none⟩ = some (.int .u8 l[k].toNat) := by rw [HX.out k (by omega)]; simp [u8v, hlt]
        have hc2 : w.cell? ⟨g', off' + k, none⟩ = some (.int .u8 (l'[k]'(by omega)).toNat) := by rw [HX'.out k (by omega)]; simp [u8v, show k < l'.length by omega]
        have hd1 := hg.cell hc1 (by simp)
        have hd2 := hg.cell hc2 (by simp)
        have hkc : (k : Int) < (l'.length : Int) := by omega
        by_cases he : l[k] = l'[k]'(by omega)
        · have hne : (((l[k]).toNat : Int) != ((l'[k]'(by omega)).toNat : Int)) = false := by rw [bne_eq_false_iff_eq, he]
          have hst : Hid (l.take (k + 1) = l'.take (k + 1)) := by show _ = _; rw [take_snoc hlt, take_snoc (show k < l'.length by omega), Hall.out, he]
          have hx1 := l[k].toNat_lt
          have hx2 := (l'[k]'(by omega)).toNat_lt
          clear he hc1 hc2
          generalize (l'[k]'(by omega)).toNat = y at *
          generalize l[k].toNat = x at *
          go_wp2_with fail
          go_quiet (fail)
          go_wp2
          go_roundw
          case rel => exact ⟨k + 1, by omega, by go_num, hst.out, gr_none hg (gr_drewN _ _ _)⟩
          case measure => simp [intOf]; omega
        · have hne : (((l[k]).toNat : Int) != ((l'[k]'(by omega)).toNat : Int)) = true := by
            rw [bne_iff_ne]
            intro e
            exact he (UInt8.toNat_inj.1 (by omega))
          have hno : Hid (l ≠ l') := fun e => by subst e; exact he rfl
          have hx1 := l[k].toNat_lt
          have hx2 := (l'[k]'(by omega)).toNat_lt
          clear he hc1 hc2
          generalize (l'[k]'(by omega)).toNat = y at *
          generalize l[k].toNat = x at *
          go_wp2_with fail
          go_quiet (fail)
          go_wp2
          go_ret
          exact ⟨⟨false, rfl, by simpa using hno.out⟩, gr_none hg (gr_drewN _ _ _)⟩
      · obtain rfl : k = l.length := by omega
        go_wp2
        go_ret
        exact ⟨⟨true, rfl, by simp; have := Hall.out; rw [List.take_length, List.take_of_length_le (by omega)] at this; exact this⟩, hg⟩
  · have hb : ((l.length : Int) != (l'.length : Int)) = true := by rw [bne_iff_ne]; omega
    have HNE : Hid (l ≠ l') := fun e => hll (by rw [e])
    clear hll
    go_enter Try.func102, Try.ntmps102
    go_wp2
    go_ret
    exact ⟨⟨false, rfl, by simpa using HNE.out⟩, gr_refl _ _⟩
def fieldsB (m : List UInt32) : List UInt8 := m.flatMap fun x => le x.toNat 4
theorem fieldsB_len (m : List UInt32) : (fieldsB m).length = 4 * m.length := by
  induction m with
  | nil => rfl
  | cons x m ih =>
    have e : fieldsB (x :: m) = le x.toNat 4 ++ fieldsB m := rfl
    rw [e, List.length_append, ih, length_le, List.length_cons]
    omega
theorem fieldsB_snoc {m : List UInt32} {k : Nat} (hk : k < m.length) : fieldsB (m.take (k + 1)) = fieldsB (m.take k) ++ le m[k].toNat 4 := by
  unfold fieldsB
  rw [List.take_succ_eq_append_getElem hk, List.flatMap_append]
  congr 1
/-- append of noughts, at the operation. -/
theorem wp_appZ {ops : Array Oper} {rest : List Oper} {q : Oper} {a : Act} {Q : Exit → Act → World → Prop} {w : World} (hgd : q.guard = none) (s0 x0 : Operand)
    (ho : q.op = .call { callee := .builtin .append, args := #[s0, x0], argTypes := #[22, 3] }) {B : Nat} {v : Value} {l : List UInt8} (hs : a.eval s0 = v) (hown : OwnB w B v l) {M : Int} (m : Nat) (hM : M = (m : Int)) (hx : a.eval x0 = .int .i64 M)
    (hn : l.length + m ≤ 70000000000000) (hB : B ≤ w.heap.size)
    (h : ∀ v' w', OwnB w' B v' (l ++ List.replicate m 0) → Ext0 w w' v v' → wpList Try.prog ops Q rest (a.put q.dst v') w') : wpList Try.prog ops Q (q :: rest) a w := by
  refine wpList_plain hgd fun K hK => ?_
  subst hM
  obtain ⟨v', w', hrun, h1, h2⟩ := run_appZ w q.type B v l hown m hn hB
  unfold Oper.wp execOp
  simp only [ho, resolve, invoke, builtin, Sem.run_bind, Sem.run_pure, Result.andThen_ok, List.map_toArray, List.map_cons, List.map_nil, hs, hx, hrun]
  exact hK _ _ (h v' w' h1 h2)
theorem ext0_gr {W w w' : World} {v u : Value} {B : Nat} {l : List UInt8} (hg : W.grownBy w none) (h : Ext0 w w' v u) (ho : OwnB w B v l) (hB : W.heap.size ≤ B) : W.grownBy w' none := by
  obtain ⟨r, g, hr, _⟩ := h
  exact gr_trans hg g (.inr fun k e => Nat.le_trans hB (Own.blk_lt ho (by omega) (hr k e)).1)
theorem sector_any (v : Value) (m : List UInt32) (w : World) (h : Rd w 1 v m.length (m.map fun x => .int .u32 x.toNat)) (hm : m.length ≤ 15) :
    Calls Try.prog 72 #[v] w fun e w' => (∃ v', e = .returned v' ∧ OwnB w' w.heap.size v' (fieldsB m ++ List.replicate (60 - 4 * m.length) 0 ++ le (crcS (fieldsB m ++ List.replicate (60 - 4 * m.length) 0)) 4)) ∧ w.grownBy w' none := by
  obtain ⟨_, A, c, g, off, rfl, _, _, _, hA, hx⟩ := h
  have HA := Lib.hid hA
  have HX := Lib.hid hx
  clear hA hx
  go_enter Try.func72, Try.ntmps72
  go_wp2
  go_loopw [3, 5, 8] (fun u _ i wr => ∃ k : Nat, k ≤ m.length ∧ i = .int .i64 k ∧ OwnB wr w.heap.size u (fieldsB (m.take k)) ∧ w.grownBy wr none) (fun _ _ i _ => m.length - (intOf i).toNat)
  case atStart => exact ⟨0, by omega, rfl, by simpa [fieldsB] using OwnB.nil _ _, gr_refl _ _⟩
  case round =>
    obtain ⟨k, hk, rfl, hown, hg⟩ := hrel
    have hfl := fieldsB_len (m.take k)
    rw [List.length_take] at hfl
    by_cases hlt : k < m.length
    · obtain rfl := HA.out (by omega)
      have hc0 : w.cell? ⟨g, off + k, none⟩ = some (.int .u32 m[k].toNat) := by rw [HX.out k (by omega)]; simp [hlt]
      have hc := hg.cell hc0 (by simp)
      have hsn := fieldsB_snoc hlt
      have HSN := Lib.hid hsn
      have hxl := m[k].toNat_lt
      have HO := Lib.hid hown
      have HG := Lib.hid hg
      clear hc0 hsn hown hg
      generalize m[k].toNat = x at *
      go_wp2_with fail
      refine (put_any x 4 _ (fieldsB (m.take k)) _ (by omega) (by omega) (by omega) HO.out.rd).mono ?_
      rintro e w1 ⟨v1, rfl, o1, g1⟩
      have O1 : Hid (OwnB w1 w.heap.size v1 (fieldsB (m.take (k + 1)))) := by show OwnB _ _ _ _; rw [HSN.out]; exact o1.mono HG.out.size
      have G1 := Lib.hid (gr_none HG.out g1)
      clear o1 g1
      go_wp2
      go_roundw
      case rel => exact ⟨k + 1, by omega, by go_num, O1.out, G1.out⟩
      case measure => simp [intOf]; omega
    · obtain rfl : k = m.length := by omega
      rw [List.take_length] at hown hfl
      obtain ⟨A1, c1, rfl⟩ := hown.rd.form
      have HO := Lib.hid hown
      have HG := Lib.hid hg
      have hf15 : (fieldsB m).length ≤ 60 := by omega
      clear hown hg
      go_wp2_with (refine wp_appZ rfl (.tmp 17) (.tmp 20) rfl rfl HO.out (60 - 4 * m.length) (by omega) rfl (by omega) HG.out.size ?_; intro v2 w2 ho2 hx2)
      have hl2 : (fieldsB m ++ List.replicate (60 - 4 * m.length) (0 : UInt8)).length = 60 := by simp; omega
      have G2 := Lib.hid (ext0_gr HG.out hx2 HO.out (Nat.le_refl _))
      have HO2 := Lib.hid ho2
      have hcl := crcE_lt 0 (fieldsB m ++ List.replicate (60 - 4 * m.length) (0 : UInt8))
      clear ho2 hx2
      go_wp2_with fail
      refine (sum_any _ _ _ HO2.out.rd (by omega)).mono ?_
      rintro e w3 ⟨rfl, g3⟩
      have HO3 := Lib.hid (HO2.out.ext g3)
      have G3 := Lib.hid (gr_none G2.out g3)
      have hcl' : crcS (fieldsB m ++ List.replicate (60 - 4 * m.length) (0 : UInt8)) < 2 ^ 64 := by unfold crcS; omega
      clear g3
      generalize hxx : crcS (fieldsB m ++ List.replicate (60 - 4 * m.length) (0 : UInt8)) = x at *
      have HXX := Lib.hid hxx
      clear hxx
      go_wp2_with fail
      refine (put_any x 4 _ _ _ hcl' (by omega) (by omega) HO3.out.rd).mono ?_
      rintro e w4 ⟨v4, rfl, o4, g4⟩
      have O4 := Lib.hid (o4.mono G3.out.size)
      have G4 := Lib.hid (gr_none G3.out g4)
      clear o4 g4
      go_wp2
      go_ret
      exact ⟨⟨v4, rfl, by rw [HXX.out]; exact O4.out⟩, G4.out⟩
end Go.Proofs.Ytfbbbbekialpnaa
