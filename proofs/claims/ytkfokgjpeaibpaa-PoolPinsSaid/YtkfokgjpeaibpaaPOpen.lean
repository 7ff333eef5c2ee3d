/-
  PoolPins: the walk.
-/
import Derived.Test.YtkfokgjpeaibpaaPo6
import Derived.Test.YtkfokgjpeaibpaaOct
import Derived.ChangeSame
import Derived.ChangeVars
import Derived.JoinedOf
import Derived.RowKit
import Derived.RowKitTokens
import Derived.ProofKit
import Derived.OpenShut
import Derived.Deep.Slices
import Derived.Deep.Fields
import Derived.Lib.SmallJoins
namespace Go.Proofs.Ytkfokgjpeaibpaa
open Go.RowKit Go.Maps
set_option maxRecDepth 100000
set_option maxHeartbeats 400000

def psN (i : Nat) : List (List UInt8) := (List.range i).map fun j => [UInt8.ofNat j]
theorem psN_len (i : Nat) : (psN i).length = i := by unfold psN; simp
theorem psN_succ (i : Nat) : psN (i + 1) = psN i ++ [[UInt8.ofNat i]] := by unfold psN; rw [List.range_succ, List.map_append]; rfl
theorem psN_at {i j : Nat} (h : j < i) : (psN i).getD j [] = [UInt8.ofNat j] := by unfold psN; simp [List.getD_eq_getElem?_getD, h]
theorem range_filter {n k : Nat} (hk : k < n) : ((List.range n).filter fun j => !(j == k)).length < n := by
  have h1 := (List.nodup_range (n := n)).filter (fun j => !(j == k))
  have h2 : (k :: (List.range n).filter fun j => !(j == k)).Nodup := by
    rw [List.nodup_cons]
    exact ⟨fun h => by simp at h, h1⟩
  have := h2.length_le_of_subset (l₂ := List.range n) fun y hy => by
    rcases List.mem_cons.1 hy with rfl | hy
    · exact List.mem_range.2 hk
    · exact (List.mem_filter.1 hy).1
  rw [List.length_cons, List.length_range] at this
  omega
theorem one_byte (wr : World) {i : Nat} (hi : i ≤ 21) : RdB (wr.alloc (.cells #[.int .u8 i] 5)) (.slice (some ⟨wr.heap.size, 0, none⟩) 1 1) [UInt8.ofNat i] := by
  have h := rd_lit wr 1 1 1 #[.int .u8 i] 5 (by simp) (Nat.le_refl _) (by unfold maxLen; omega)
  have e : u8v (UInt8.ofNat i) = .int .u8 (i : Int) := by
    show Value.int .u8 ((UInt8.ofNat i).toNat : Int) = _
    congr 1
    simp; omega
  unfold RdB
  rw [List.map_cons, List.map_nil, e]
  exact h
theorem blk_ownP {v : Value} {q : Nat} (h : blk v = some q) : v.ownBlock = some q := by
  cases v with
  | slice A n c =>
    cases A with
    | none => cases h
    | some a =>
      have h2 : (if c = 0 then none else some a.block) = some q := h
      split at h2
      · cases h2
      · exact h2
  | _ => cases h
theorem one_at {w : World} {v : Value} {j : Nat} (h : RdB w v [UInt8.ofNat j]) (hj : j ≤ 21) : ∃ g off c, v = .slice (some ⟨g, off, none⟩) 1 c ∧ 1 ≤ c ∧ w.cell? ⟨g, off, none⟩ = some (.int .u8 j) := by
  obtain ⟨A, c, rfl⟩ := RdB.form h
  obtain ⟨g, off, hA, hcap, -, hcells⟩ := RdB.at_ h
  obtain rfl := hA (by simp)
  refine ⟨g, off, c, rfl, hcap, ?_⟩
  have := hcells 0 (by simp)
  rw [Nat.add_zero] at this
  rw [this]
  congr 2
  simp; omega
set_option maxHeartbeats 8000000 in
theorem ppins_any (x y : UInt8) (w : World) : Calls Try.prog 6 #[.int .u8 x.toNat, .int .u8 y.toNat] w fun e w' => e = .returned (.bool true) ∧ w.grownBy w' none := by
  have hx := x.toNat_lt
  have hy := y.toNat_lt
  obtain ⟨L, hL⟩ : ∃ L, L = 1 + x.toNat % 20 := ⟨_, rfl⟩
  have hL2 : ((x.toNat : Int) % 20) = (L : Int) - 1 := by omega
  have hLb : 1 ≤ L ∧ L ≤ 20 := by omega
  have HNEW := Lib.hid (DA.new 4096 w (by omega))
  clear hL
  go_enter Try.func6, Try.ntmps6
  go_wp2_with fail
  rw [hL2, show (1 : Int) + ((L : Int) - 1) = (L : Int) from by omega]
  clear hL2
  refine HNEW.out.mono ?_
  rintro e w1 ⟨d, o, rfl, h1⟩
  have HPN := Lib.hid (h1.ponew L hLb.1 (by omega))
  clear h1 HNEW
  go_wp2_with fail
  refine HPN.out.mono ?_
  rintro e w2 ⟨p, O2, rfl, h2, -⟩
  have HCR := Lib.hid (PW.start h2 hLb.1 (by omega))
  clear h2 HPN
  go_wp2_with fail
  refine HCR.out.mono ?_
  rintro e w3 ⟨rfl, O3, h3, -⟩
  have H3 := Lib.hid h3
  have HLB := Lib.hid hLb
  clear h3 HCR hLb
  go_wp2_with fail
  go_loopw [9] (fun iv wr => ∃ (i : Nat) (O : Own1), i ≤ L + 1 ∧ iv = .int .i64 i ∧ PW w d p O L (psN i) (1 + i) wr) (fun iv _ => L + 1 - (intOf iv).toNat)
  case atStart => exact ⟨0, O3, Nat.zero_le _, rfl, H3.out⟩
  case round =>
    obtain ⟨i, O, hi, rfl, hpw⟩ := hrel
    have hLb := HLB.out
    by_cases hlt : i ≤ L
    · have HW : Hid (Calls Try.prog 22 #[.pointer (some ⟨p, 0, none⟩), .string ⟨an.toArray⟩, .int .i64 i, .slice (some ⟨wr.heap.size, 0, none⟩) 1 1] (wr.alloc (.cells #[.int .u8 i] 5)) fun e w' => e = .returned (.int .i64 0) ∧ ∃ O', PW w d p O' L (psN (i + 1)) (1 + i + 1) w') := by
        have h9 := (hpw.ext (gr_alloc wr (.cells #[.int .u8 i] 5) none)).write (by omega) (one_byte wr (by omega)) (fun q e => by
          have h8 : (if (1 : Nat) = 0 then none else some wr.heap.size) = some q := e
          rw [if_neg (by omega)] at h8
          cases h8
          exact ⟨by rw [World.size_alloc]; omega, hpw.fresh (Nat.le_refl _)⟩) (by simp)
        rw [psN_len, ← psN_succ] at h9
        exact h9.mono fun e w' ⟨e1, O', h1, _⟩ => ⟨e1, O', h1⟩
      clear hpw
      go_wp2_with fail
      refine HW.out.mono ?_
      rintro e w4 ⟨rfl, O4, h4⟩
      have H4 := Lib.hid h4
      clear h4 HW
      go_wp2_with fail
      go_roundw
      case rel => exact ⟨i + 1, O4, by omega, by go_num, by rw [show 1 + (i + 1) = 1 + i + 1 from by omega]; exact H4.out⟩
      case measure => simp [intOf] <;> omega
    · obtain rfl : i = L + 1 := by omega
      have HF := Lib.hid (hpw.flush (by omega))
      clear hpw
      go_wp2_with fail
      refine HF.out.mono ?_
      rintro e w4 ⟨rfl, O4, h4, -⟩
      have H4 := Lib.hid h4
      clear h4 HF
      go_wp2_with fail
      obtain ⟨M, hM⟩ : ∃ M, M = L + 4 := ⟨_, rfl⟩
      have H5 : Hid (PN w d p O4 L (List.range 0) (psN (L + 1)) (decide (0 = L)) M w4) := by
        obtain ⟨Q, S, q1, q2, q3, q4⟩ := H4.out
        refine ⟨Q, S, q1, q2.more (by omega), q3.more (by omega), fun e => ?_⟩
        have := of_decide_eq_true e
        omega
      clear H4
      go_loopw [10, 11, 12] (fun iv _ _ wr => ∃ (j : Nat) (O : Own1), j ≤ L ∧ iv = .int .i64 j ∧ PN w d p O L (List.range j) (psN (L + 1)) (decide (j = L)) (M + j) wr) (fun iv _ _ _ => L - (intOf iv).toNat)
      case atStart => exact ⟨0, O4, Nat.zero_le _, rfl, H5.out⟩
      case round =>
        obtain ⟨j, O5, hj, rfl, hpn⟩ := hrel
        rename World => wq
        by_cases hjl : j < L
        · have HP := Lib.hid (hpn.pin (k := j) (by omega) (by rw [psN_len]; omega) (by omega) (by rw [List.mem_range]; omega) (by rw [List.length_range]; omega) (by rw [← List.range_succ]; exact List.nodup_range))
          clear hpn
          go_wp2_with fail
          refine HP.out.mono ?_
          rintro e w6 ⟨vb, rfl, hrd, O6, h6, -⟩
          rw [psN_at (by omega)] at hrd
          rw [← List.range_succ, List.length_range] at h6
          obtain ⟨g, off, cb, rfl, hcap, hcell⟩ := one_at hrd (by omega)
          have H6 := Lib.hid h6
          clear hrd h6 HP
          go_wp2_with fail
          go_roundw
          case rel => exact ⟨j + 1, O6, by omega, by go_num, H6.out⟩
          case measure => simp [intOf] <;> omega
        · obtain rfl : j = L := by omega
          rw [decide_eq_true rfl] at hpn
          obtain ⟨k, hk⟩ : ∃ k, k = y.toNat % j := ⟨_, rfl⟩
          have hk2 : ((y.toNat : Int) % (j : Int)) = (k : Int) := by rw [hk]; exact (Int.natCast_emod _ _).symm
          have hkl : k < j := by rw [hk]; exact Nat.mod_lt _ (by omega)
          have hj0 : ¬ (j : Int) = 0 := by omega
          have HPL : Hid ((psN (j + 1)).length = j + 1) := psN_len _
          have HRD := Lib.hid (hpn.read (k := k) (by omega) (by rw [psN_len]; omega) (by omega) (.inl (List.mem_range.2 hkl)))
          clear hk hpn
          go_wp2_with fail
          rw [hk2]
          refine HRD.out.mono ?_
          rintro e w6 ⟨vb, rfl, ho, O6, h6, -, hoff⟩
          rw [psN_at (by omega)] at ho
          obtain ⟨g, off, cb, rfl, hcap, -⟩ := one_at (Own.rd ho) (by omega)
          have HKP6 : Hid (Kp O6 w6 wq.heap.size 1 (.slice (some ⟨g, off, none⟩) 1 cb) 1 ([UInt8.ofNat k].map u8v)) := ⟨ho, fun q e => hoff q (blk_ownP e)⟩
          have HRN := Lib.hid (h6.fullRead (k := j) (by omega) List.nodup_range List.length_range (by rw [HPL.out]; omega) (by omega) (by rw [List.mem_range]; omega))
          clear ho h6 hoff HRD
          go_wp2_with fail
          refine HRN.out.mono ?_
          rintro e w7 ⟨A7, n7, c7, rfl, O7, h7, ch7⟩
          have HKP7 := Lib.hid (HKP6.out.ch ch7 (by omega))
          have HPP := Lib.hid (h7.fullPin (k := j) (by omega) List.nodup_range List.length_range (by rw [HPL.out]; omega) (by omega) (by rw [List.mem_range]; omega))
          clear h7 ch7 HRN HKP6
          go_wp2_with fail
          refine HPP.out.mono ?_
          rintro e w8 ⟨A8, n8, c8, rfl, O8, h8, ch8⟩
          have HKP8 := Lib.hid (HKP7.out.ch ch8 (by omega))
          have HDR := Lib.hid (h8.drop (fun e => by have := congrArg List.length e; rw [List.length_range] at this; simp at this; omega))
          clear h8 ch8 HPP HKP7
          go_wp2_with fail
          refine HDR.out.mono ?_
          rintro e w9 ⟨rfl, O9, h9, ch9⟩
          have HKP9 := Lib.hid (HKP8.out.ch ch9 (by omega))
          have HUN := Lib.hid (h9.unpin (k := k) (List.mem_range.2 hkl) (by omega))
          clear h9 ch9 HDR HKP8
          go_wp2_with fail
          refine HUN.out.mono ?_
          rintro e w10 ⟨rfl, O10, h10, ch10⟩
          have HKP10 := Lib.hid (HKP9.out.ch ch10 (by omega))
          have HUN2 := Lib.hid (h10.unpin2 (k := k) (fun h => by simp at h) (by omega))
          clear h10 ch10 HUN HKP9
          go_wp2_with fail
          refine HUN2.out.mono ?_
          rintro e w11 ⟨rfl, O11, h11, ch11⟩
          have HKP11 := Lib.hid (HKP10.out.ch ch11 (by omega))
          have HR2 := Lib.hid (h11.read (k := j) (by omega) (by rw [HPL.out]; omega) (by omega) (.inr (range_filter hkl)))
          clear h11 ch11 HUN2 HKP10
          go_wp2_with fail
          refine HR2.out.mono ?_
          rintro e w12 ⟨vc, rfl, ho12, O12, h12, ch12, hoff12⟩
          rw [psN_at (by omega)] at ho12
          obtain ⟨g2, off2, cc, rfl, hcap2, -⟩ := one_at (Own.rd ho12) (by omega)
          have HKP12 := Lib.hid (HKP11.out.ch ch12 (by omega))
          have HKQ12 : Hid (Kp O12 w12 w11.heap.size 1 (.slice (some ⟨g2, off2, none⟩) 1 cc) 1 ([UInt8.ofNat j].map u8v)) := ⟨ho12, fun q e => hoff12 q (blk_ownP e)⟩
          have HR3 := Lib.hid (h12.read (k := k) (by omega) (by rw [HPL.out]; omega) (by omega) (.inr (range_filter hkl)))
          clear ho12 h12 ch12 hoff12 HR2 HKP11
          go_wp2_with fail
          refine HR3.out.mono ?_
          rintro e w13 ⟨vd, rfl, ho13, O13, h13, ch13, -⟩
          obtain ⟨Ad, cd, rfl⟩ := RdB.form (Own.rd ho13)
          have HKP13 := Lib.hid (HKP12.out.ch ch13 (by omega))
          have HKQ13 := Lib.hid (HKQ12.out.ch ch13 (by omega))
          have HPK := Lib.hid h13.peak
          have HGR := Lib.hid h13.gr
          clear ho13 h13 ch13 HR3 HKP12 HKQ12
          go_wp2_with fail
          refine HPK.out.mono ?_
          rintro e w14 ⟨rfl, g14⟩
          obtain ⟨gx, offx, cx, hvx, -, hcell1⟩ := one_at (v := .slice (some ⟨g, off, none⟩) 1 cb) (HKP13.out.ext g14).own.rd (by omega)
          obtain ⟨gy, offy, cy, hvy, -, hcell2⟩ := one_at (v := .slice (some ⟨g2, off2, none⟩) 1 cc) (HKQ13.out.ext g14).own.rd (by omega)
          cases hvx
          cases hvy
          have G14 := Lib.hid (gr_none HGR.out g14)
          have HWK := Lib.hid (works10_any w14)
          clear g14 HPK HKP13 HKQ13
          go_wp2_with fail
          refine HWK.out.mono ?_
          rintro e w15 ⟨rfl, g15⟩
          have G15 := Lib.hid g15
          clear g15 hcell1 hcell2 HWK
          go_wp2_with fail
          go_ret
          exact ⟨rfl, gr_none G14.out G15.out⟩
end Go.Proofs.Ytkfokgjpeaibpaa

/- What bare rows share: the knobs, bytes out of readings. -/
namespace Go.Proofs.Ytkfokgjpeaibpaa
open Go.ChangeShapes Go.WideShapes Go.RowKit
set_option maxRecDepth 100000

theorem Try.own : ownKnob Try.prog.godebug = none := by kernel_rfl
theorem Try.lout : laidOutB Try.prog = true := by kernel_rfl

/-- a []byte that came in reads as bytes. -/
theorem rdB_open {H : Type} {enc : TypeId × Value → H} {W : World} {v : Value} {d : DataW H} {p : List MemPlace} {base : Nat} (hok : Value.okWide Try.prog W .any base 27 v) (h : DataW.Trod enc Try.prog W 0 (fun _ => true) true 27 v d p) : ∃ l, RdB W v l := by
  obtain ⟨a0, len0, cap0, rfl⟩ := okWide_slice Try.underlying27 hok
  obtain ⟨fuel, hf⟩ := h
  rcases open_ints Try.underlying27 Try.underlying5 (by kernel_rfl) hf with ⟨hcs, _⟩ | ⟨x, l, c, zs, hcs, _, hl, hm, hz, _, hcell, hwz⟩
  · simp [Value.cells] at hcs
    obtain ⟨rfl, rfl, rfl⟩ := hcs
    exact ⟨[], Rd.nil _ _⟩
  · simp [Value.cells] at hcs
    obtain ⟨rfl, rfl, rfl⟩ := hcs
    have hz' : zs.length = cap0 := by simpa using hz
    refine ⟨(zs.take len0).map fun n => UInt8.ofNat n.toNat, ?_⟩
    have hlen : ((zs.take len0).map fun n => UInt8.ofNat n.toNat).length = len0 := by simp; omega
    unfold RdB
    rw [hlen]
    have hx : x.spot = none ∨ cap0 = 0 := by
      rcases Nat.eq_zero_or_pos cap0 with h0 | h0
      · exact .inr h0
      · have := hcell 0 (by omega)
        left
        have hx0 : x.add 0 = x := by simp [Addr.add]
        rw [hx0] at this
        unfold World.cell? at this
        split at this
        · split at this
          · cases this
          · rename_i hs; simpa using hs
        · cases this
    refine ⟨by simp; omega, some x, cap0, x.block, x.off, rfl, hl, hm, fun e => (by cases e), fun h0 => ?_, fun j hj => ?_⟩
    · rcases hx with hx | hx
      · obtain ⟨b, o, s⟩ := x; simp at hx; subst hx; rfl
      · omega
    · rcases hx with hx | hx
      · obtain ⟨b, o, s⟩ := x
        simp at hx
        subst hx
        have := hcell j (by omega)
        rw [Addr.add_lit] at this
        rw [this]
        have hj' : j < zs.length := by omega
        have hmem := hwz zs[j] (List.getElem_mem hj')
        have hb := bounds_u8 hmem
        simp only [Nat.mul_one] at hj
        rw [List.map_map, List.getElem?_map, List.getElem?_take, if_pos hj, List.getElem?_eq_getElem hj']
        simp only [Option.map_some, Function.comp, u8v, List.getD, List.getElem?_eq_getElem hj', Option.getD_some]
        congr 2
        simp
        omega
      · omega

end Go.Proofs.Ytkfokgjpeaibpaa

/- Arguments of bare rows read out: numbers. -/
namespace Go.Proofs.Ytkfokgjpeaibpaa
open Go.ChangeShapes Go.WideShapes Go.RowKit Go.Deep Go.Joins
set_option maxRecDepth 100000

section
variable {H : Type} {enc : TypeId × Value → H} {W : World} {base : Nat}
theorem u32_of_wf {z : Int} (h : (Lit.int .u32 z).wf = true) : ∃ x : UInt32, z = (x.toNat : Int) := by
  have := bounds_u32 h
  exact ⟨UInt32.ofNat z.toNat, by simp; omega⟩
theorem u64_of_wf {z : Int} (h : (Lit.int .u64 z).wf = true) : ∃ x : UInt64, z = (x.toNat : Int) := by
  have := bounds_u64 h
  exact ⟨UInt64.ofNat z.toNat, by simp; omega⟩
theorem u16_of_wf {z : Int} (h : (Lit.int .u16 z).wf = true) : ∃ x : UInt16, z = (x.toNat : Int) := by
  have := bounds_u16 h
  exact ⟨UInt16.ofNat z.toNat, by simp; omega⟩
theorem u8_of_wf {z : Int} (h : (Lit.int .u8 z).wf = true) : ∃ x : UInt8, z = (x.toNat : Int) := by
  have := bounds_u8 h
  exact ⟨UInt8.ofNat z.toNat, by simp; omega⟩
theorem rd_u32 {t : TypeId} (ht : Try.prog.underlying t = some (.int .u32)) {v : Value} {spare : Nat → Bool} {held : Bool} {n : Nat} {y : DataW H × List MemPlace} (h : DataW.trod enc Try.prog W base spare held n t [v] = some y) : ∃ x : UInt32, v = u32v x := by
  obtain ⟨z, hz, _, hw⟩ := DataW.trod_int ht h
  obtain ⟨x, rfl⟩ := u32_of_wf hw
  exact ⟨x, by simpa [u32v, u64v] using hz⟩
theorem rd_u64 {t : TypeId} (ht : Try.prog.underlying t = some (.int .u64)) {v : Value} {spare : Nat → Bool} {held : Bool} {n : Nat} {y : DataW H × List MemPlace} (h : DataW.trod enc Try.prog W base spare held n t [v] = some y) : ∃ x : UInt64, v = u64v x := by
  obtain ⟨z, hz, _, hw⟩ := DataW.trod_int ht h
  obtain ⟨x, rfl⟩ := u64_of_wf hw
  exact ⟨x, by simpa [u32v, u64v] using hz⟩
end
end Go.Proofs.Ytkfokgjpeaibpaa
