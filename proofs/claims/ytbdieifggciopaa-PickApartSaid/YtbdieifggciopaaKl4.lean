/-
  PickApart: the law's walk.
-/
import Derived.Test.YtbdieifggciopaaKo
import Derived.Test.YtbdieifggciopaaUc
import Derived.Deep.CutRange
namespace Go.Proofs.Ytbdieifggciopaa
open Go.RowKit
set_option maxRecDepth 100000
set_option maxHeartbeats 400000

def inO (out : List UInt32) (x : Cd) : Bool := decide (x.d.v ∈ out)
def cntO (out : List UInt32) (m : List Cd) : Nat := (m.filter (inO out)).length
theorem cntO_succ {out : List UInt32} {m : List Cd} {k : Nat} (hk : k < m.length) : cntO out (m.take (k + 1)) = cntO out (m.take k) + if m[k].d.v ∈ out then 1 else 0 := by
  unfold cntO
  rw [List.take_succ_eq_append_getElem hk, List.filter_append, List.length_append]
  congr 1
  by_cases h : m[k].d.v ∈ out
  · simp [inO, h]
  · simp [inO, h]
theorem cntO_le (out : List UInt32) (m : List Cd) : cntO out m ≤ m.length := List.length_filter_le _ _
theorem cntO_all {D : List Dt} {out : List UInt32} {m : List Cd} (hp : PickOf D out) (hu : UniD D) (hm : m.map Cd.d = D) : cntO out m = out.length := by
  have h1 : ((m.filter (inO out)).map fun x => x.d.v).Nodup := by
    have h0 : (m.map fun x => x.d.v).Nodup := by
      have : m.map (fun x => x.d.v) = D.map Dt.v := by rw [← hm, List.map_map]; rfl
      rw [this]
      unfold UniD at hu
      exact List.pairwise_map.2 hu
    exact (List.filter_sublist.map _).nodup h0
  have h2 : out.Nodup := hp.1.imp fun h e => by subst e; omega
  have h3 : ((m.filter (inO out)).map fun x => x.d.v).Perm out := by
    rw [List.perm_ext_iff_of_nodup h1 h2]
    intro v
    rw [List.mem_map]
    constructor
    · rintro ⟨x, hx, rfl⟩
      have := (List.mem_filter.1 hx).2
      simpa [inO] using this
    · intro hv
      obtain ⟨d, hd, e, _⟩ := (hp.2 v).1 hv
      rw [← hm] at hd
      obtain ⟨x, hx, rfl⟩ := List.mem_map.1 hd
      exact ⟨x, List.mem_filter.2 ⟨hx, by simp [inO, e, hv]⟩, e⟩
  have := h3.length_eq
  simpa [cntO] using this
theorem PickOf.is_ {D : List Dt} {out : List UInt32} (hp : PickOf D out) (hu : UniD D) {x : Dt} (hx : x ∈ D) : x.v ∈ out ↔ ¬ lateD D x := by
  rw [hp.2]
  constructor
  · rintro ⟨y, hy, e, h⟩
    rw [← hu.eq hy hx e]; exact h
  · exact fun h => ⟨x, hx, rfl, h⟩
theorem PickOf.apart {D : List Dt} {out : List UInt32} (hp : PickOf D out) (hu : UniD D) {x y : Dt} (hx : x ∈ D) (hy : y ∈ D) (hne : x.v ≠ y.v) (hn : nearD x y) (h : x.v ∈ out) : ¬ y.v ∈ out := by
  intro h'
  have h1 := (hp.is_ hu hx).1 h
  have h2 := (hp.is_ hu hy).1 h'
  by_cases ha : aheadD x y
  · exact h2 ⟨x, hx, hne, hn.symm, ha⟩
  · exact h1 ⟨y, hy, fun e => hne e.symm, hn, aheadD_not ha hne⟩
/-- one of the first ones, another than this, is near and comes ahead. -/
def behindK (m : List Cd) (i k : Nat) (x : Dt) : Prop := ∃ q, ∃ h : q < m.length, q < k ∧ q ≠ i ∧ nearD x m[q].d ∧ aheadD m[q].d x
theorem behindK_zero (m : List Cd) (i : Nat) (x : Dt) : ¬ behindK m i 0 x := by rintro ⟨q, _, h, _⟩; omega
theorem behindK_succ {m : List Cd} {i k : Nat} (hk : k < m.length) (x : Dt) : behindK m i (k + 1) x ↔ behindK m i k x ∨ (k ≠ i ∧ nearD x m[k].d ∧ aheadD m[k].d x) := by
  constructor
  · rintro ⟨q, h, h1, h2⟩
    by_cases e : q = k
    · subst e; exact .inr h2
    · exact .inl ⟨q, h, by omega, h2⟩
  · rintro (⟨q, h, h1, h2⟩ | h)
    · exact ⟨q, h, by omega, h2⟩
    · exact ⟨k, hk, by omega, h⟩
theorem behindK_all {m : List Cd} {D : List Dt} (hm : m.map Cd.d = D) (hu : UniD D) {i : Nat} (hi : i < m.length) : behindK m i m.length m[i].d ↔ lateD D m[i].d := by
  have hmem : ∀ q (h : q < m.length), m[q].d ∈ D := fun q h => by rw [← hm]; exact List.mem_map.2 ⟨_, List.getElem_mem h, rfl⟩
  have hv : ∀ q (h : q < m.length), q ≠ i → m[q].d.v ≠ m[i].d.v := by
    intro q h hne
    have hu' : (m.map fun x => x.d.v).Pairwise (· ≠ ·) := by
      have : m.map (fun x => x.d.v) = D.map Dt.v := by rw [← hm, List.map_map]; rfl
      rw [this]; exact List.pairwise_map.2 hu
    rw [List.pairwise_iff_getElem] at hu'
    rcases Nat.lt_or_gt_of_ne hne with h1 | h1
    · have := hu' q i (by simpa using h) (by simpa using hi) h1
      simpa using this
    · have := hu' i q (by simpa using hi) (by simpa using h) h1
      exact fun e => by simp at this; exact this e.symm
  constructor
  · rintro ⟨q, h, _, h2, h3, h4⟩
    exact ⟨_, hmem q h, hv q h h2, h3, h4⟩
  · rintro ⟨y, hy, h2, h3, h4⟩
    rw [← hm] at hy
    obtain ⟨z, hz, rfl⟩ := List.mem_map.1 hy
    obtain ⟨q, h, rfl⟩ := List.mem_iff_getElem.1 hz
    exact ⟨q, h, h, fun e => by subst e; exact h2 rfl, h3, h4⟩
theorem uni_ne {m : List Cd} (hu : UniD (m.map Cd.d)) {i k : Nat} (hi : i < m.length) (hk : k < m.length) (hne : k ≠ i) : m[i].d.v ≠ m[k].d.v := by
  unfold UniD at hu
  rw [List.pairwise_map, List.pairwise_iff_getElem] at hu
  rcases Nat.lt_or_gt_of_ne hne with h1 | h1
  · exact fun e => hu k i hk hi h1 e.symm
  · exact hu i k hi hk h1
set_option maxHeartbeats 16000000 in
theorem pickApart_any (v : Value) (l : List Cd) (w : World) (h : RdC w v l) :
    Calls Try.prog 4 #[v] w fun e w' => e = .returned (.bool true) ∧ w.grownBy w' none := by
  have hmax : l.length ≤ maxLen := by obtain ⟨_, _, _, _, _, _, h1, h2, _⟩ := h.1; omega
  unfold maxLen at hmax
  have HW := Lib.hid works_any
  have HLG := Lib.hid (large_any v l w h)
  have HL := Lib.hid h
  obtain ⟨A, c, rfl⟩ := h.form
  clear h
  go_enter Try.func4, Try.ntmps4
  go_wp2_with fail
  refine HLG.out.mono ?_
  rintro e w1 ⟨⟨b, rfl, hb⟩, g1⟩
  have G1 := Lib.hid g1
  have HB := Lib.hid hb
  clear hb g1 HLG
  cases b
  · have HSM := Lib.hid (HB.out (by first | exact trivial | rfl))
    have HON := Lib.hid (once_any _ l w1 (HL.out.ext G1.out) (by have := HSM.out.1; omega))
    clear HB
    go_wp2_with fail
    refine HON.out.mono ?_
    rintro e w2 ⟨⟨u2, m, rfl, ho2, hm2, hsub, hml⟩, g2⟩
    have G2 := Lib.hid (gr_none G1.out g2)
    have HM := Lib.hid hm2
    have HR2 := Lib.hid ho2.rd
    have HNR : Hid (∀ x ∈ m, x.d.near.length ≤ 2000) := fun x hx => HSM.out.2 x (hsub x hx)
    have hm100 : m.length ≤ 100 := by have := HSM.out.1; omega
    obtain ⟨A2, c2, rfl⟩ := HR2.out.form
    have HPK := Lib.hid (pick_any _ l w2 (HL.out.ext G2.out) (by have := HSM.out.1; omega) fun x hx => by have := HSM.out.2 x hx; omega)
    clear ho2 hm2 hsub hml g2 HON
    go_wp2_with fail
    refine HPK.out.mono ?_
    rintro e w3 ⟨⟨u3, out, rfl, ho3, hp3⟩, g3⟩
    have HP := Lib.hid hp3
    have HU := Lib.hid (onceD_uni (l.map Cd.d))
    rw [← HM.out] at HP HU
    have hol : out.length ≤ 100 := by have := HP.out.len; simp at this; omega
    have hemp : out.length = 0 ↔ m.length = 0 := by
      constructor
      · intro h0
        have h1 : out = [] := List.eq_nil_of_length_eq_zero h0
        apply Decidable.byContradiction
        intro hne
        exact HP.out.some_ (by intro e; apply hne; have := congrArg List.length e; simpa using this) h1
      · intro h0
        have := HP.out.len
        simp at this
        omega
    have G3 := Lib.hid (gr_none G2.out g3)
    have HO3 := Lib.hid (Own.rd ho3)
    have HR3 := Lib.hid (HR2.out.ext g3)
    obtain ⟨A3, c3, rfl⟩ := RdU.form HO3.out
    obtain ⟨g, off, hA, _, hcells⟩ := HR3.out.1.at_ cd3
    have HA := Lib.hid hA
    have HC := Lib.hid hcells
    have HLN := Lib.hid HR3.out.2
    have hb : (((out.length : Int) == 0) == ((m.length : Int) == 0)) = true := by
      rw [beq_iff_eq, Bool.eq_iff_iff, beq_iff_eq, beq_iff_eq]
      omega
    have HEMP := Lib.hid hemp
    clear ho3 hp3 g3 HPK hA hcells HR2 hemp
    go_wp2
    go_loopw [5, 6] (fun p i wr => ∃ (k pc : Nat), k ≤ m.length ∧ i = .int .i64 k ∧ p = .int .i64 pc ∧ Hid (pc = cntO out (m.take k)) ∧ pc ≤ k ∧ w3.grownBy wr none) (fun _ i _ => m.length - (intOf i).toNat)
    case atStart => exact ⟨0, 0, by omega, rfl, rfl, Lib.hid rfl, by omega, gr_refl _ _⟩
    case round =>
      obtain ⟨i, pc, hi, rfl, rfl, hpc, hpi, hg⟩ := hrel
      have HG := Lib.hid hg
      clear hg
      by_cases hlt : i < m.length
      · have := HA.out (by omega)
        subst this
        have HCN := Lib.hid (cntO_succ (out := out) hlt)
        have HBA := Lib.hid (behindK_all rfl HU.out hlt)
        have HIS := Lib.hid (HP.out.is_ HU.out (List.mem_map.2 ⟨_, List.getElem_mem hlt, rfl⟩ : m[i].d ∈ m.map Cd.d))
        have HPA := Lib.hid fun (k : Nat) (hk : k < m.length) (hne : k ≠ i) (hn : nearD m[i].d m[k].d) => HP.out.apart HU.out (List.mem_map.2 ⟨_, List.getElem_mem hlt, rfl⟩ : m[i].d ∈ m.map Cd.d) (List.mem_map.2 ⟨_, List.getElem_mem hk, rfl⟩ : m[k].d ∈ m.map Cd.d) (uni_ne HU.out hlt hk hne) hn
        have hxn := HNR.out _ (List.getElem_mem hlt)
        rcases hx : m[i] with ⟨⟨xa, xb, xl⟩, xs⟩
        have HXL : Hid (RdU w3 xs xl) := by have := HLN.out _ (List.getElem_mem hlt); rw [hx] at this; exact this
        obtain ⟨c0, c1, c2⟩ := at3C HC.out HG.out hlt hx
        rw [hx] at HCN HBA HIS HPA hxn
        simp only [] at hxn
        have HX := Lib.hid hx
        clear hx
        obtain ⟨A5, c5, rfl⟩ := RdU.form HXL.out
        have HG7 := Lib.hid (gr_alloc wr (.cells #[.int .u32 xa.toNat, .int .u64 xb.toNat, .slice A5 xl.length c5] 33) none)
        have HFX : Hid (∀ wx, (wr.alloc (.cells #[.int .u32 xa.toNat, .int .u64 xb.toNat, .slice A5 xl.length c5] 33)).grownBy wx none → wx.cell? ⟨wr.heap.size, 0, none⟩ = some (.int .u32 xa.toNat) ∧ wx.cell? ⟨wr.heap.size, 1, none⟩ = some (.int .u64 xb.toNat) ∧ wx.cell? ⟨wr.heap.size, 2, none⟩ = some (.slice A5 xl.length c5)) := fun wx hx =>
          ⟨hx.cell (a := ⟨wr.heap.size, 0, none⟩) (by simp) (by simp), hx.cell (a := ⟨wr.heap.size, 1, none⟩) (by simp) (by simp), hx.cell (a := ⟨wr.heap.size, 2, none⟩) (by simp) (by simp)⟩
        have HHS := Lib.hid (has_any _ out xa _ (Rd.ext HO3.out (gr_none HG.out HG7.out)) (by omega))
        go_wp2_with fail
        refine HHS.out.mono ?_
        rintro e w4 ⟨⟨is, rfl, his⟩, g4⟩
        have HI := Lib.hid (his.trans HIS.out)
        have HIV := Lib.hid his
        have HG4 := Lib.hid (gr_none (gr_none HG.out HG7.out) g4)
        have HFX4 : Hid (∀ wx, w4.grownBy wx none → wx.cell? ⟨wr.heap.size, 0, none⟩ = some (.int .u32 xa.toNat) ∧ wx.cell? ⟨wr.heap.size, 1, none⟩ = some (.int .u64 xb.toNat) ∧ wx.cell? ⟨wr.heap.size, 2, none⟩ = some (.slice A5 xl.length c5)) := fun wx hx => HFX.out wx (gr_none g4 hx)
        clear his g4 HHS HFX HG7 c0 c1 c2 HG
        go_upto_if 41 with fail
        go_cut [5] from 27 to 104 (fun s5 wc => (∃ pd : Nat, s5 = .int .i64 pd ∧ Hid (pd = cntO out (m.take (i + 1))) ∧ pd ≤ i + 1) ∧ wc = w4)
        case first =>
          cases is
          · have HE : Hid (pc = cntO out (m.take (i + 1))) := by
              show _ = _
              rw [HCN.out, ← hpc.out, if_neg (fun h => by have := HIV.out.2 h; cases this)]
              rfl
            go_wp2_with fail
            go_meet
            case rel => exact ⟨⟨pc, rfl, HE, by omega⟩, rfl⟩
          · have HE : Hid (pc + 1 = cntO out (m.take (i + 1))) := by
              show _ = _
              rw [HCN.out, ← hpc.out, if_pos (HIV.out.1 (by first | rfl | trivial))]
            go_wp2_with fail
            go_meet
            case rel => exact ⟨⟨pc + 1, by go_num, HE, by omega⟩, rfl⟩
        case rest =>
          obtain ⟨⟨pd, rfl, hpd, hpdi⟩, rfl⟩ := hcut
          clear hpc HCN
          go_wp2
          go_loopw [9, 10] (fun b k wq => ∃ (t : Nat) (bh : Bool), t ≤ m.length ∧ b = .bool bh ∧ k = .int .i64 t ∧ Hid (bh = true ↔ behindK m i t ⟨xa, xb, xl⟩) ∧ wc.grownBy wq none) (fun _ k _ => m.length - (intOf k).toNat)
          case atStart => exact ⟨0, false, by omega, rfl, rfl, Lib.hid ⟨fun h => (by cases h), fun h => absurd h (behindK_zero _ _ _)⟩, gr_refl _ _⟩
          case round =>
            obtain ⟨t, bh, ht, rfl, rfl, hbh, hgq⟩ := hrel
            obtain ⟨wo, rfl⟩ : ∃ wo, wo = wr := ⟨_, rfl⟩
            have HGQ := Lib.hid hgq
            clear hgq
            by_cases htl : t < m.length
            · have HBS := Lib.hid (behindK_succ (i := i) htl ⟨xa, xb, xl⟩)
              have HPT := Lib.hid (HPA.out t htl)
              have hyn := HNR.out _ (List.getElem_mem htl)
              rcases hy : m[t] with ⟨⟨ya, yb, yl⟩, ys⟩
              have HYL : Hid (RdU w3 ys yl) := by have := HLN.out _ (List.getElem_mem htl); rw [hy] at this; exact this
              have HGW := Lib.hid (gr_none HG4.out HGQ.out)
              obtain ⟨d0, d1, d2⟩ := at3C HC.out HGW.out htl hy
              rw [hy] at HBS HPT hyn
              simp only [] at hyn
              clear hy
              obtain ⟨A6, c6, rfl⟩ := RdU.form HYL.out
              have HG8 := Lib.hid (gr_alloc wo (.cells #[.int .u32 ya.toNat, .int .u64 yb.toNat, .slice A6 yl.length c6] 33) none)
              have HFY : Hid (∀ wx, (wo.alloc (.cells #[.int .u32 ya.toNat, .int .u64 yb.toNat, .slice A6 yl.length c6] 33)).grownBy wx none → (wx.cell? ⟨wo.heap.size, 0, none⟩ = some (.int .u32 ya.toNat) ∧ wx.cell? ⟨wo.heap.size, 1, none⟩ = some (.int .u64 yb.toNat) ∧ wx.cell? ⟨wo.heap.size, 2, none⟩ = some (.slice A6 yl.length c6)) ∧ (wx.cell? ⟨wr.heap.size, 0, none⟩ = some (.int .u32 xa.toNat) ∧ wx.cell? ⟨wr.heap.size, 1, none⟩ = some (.int .u64 xb.toNat) ∧ wx.cell? ⟨wr.heap.size, 2, none⟩ = some (.slice A5 xl.length c5))) := fun wx hx =>
                ⟨⟨hx.cell (a := ⟨wo.heap.size, 0, none⟩) (by simp) (by simp), hx.cell (a := ⟨wo.heap.size, 1, none⟩) (by simp) (by simp), hx.cell (a := ⟨wo.heap.size, 2, none⟩) (by simp) (by simp)⟩, HFX4.out wx (gr_none HGQ.out (gr_none HG8.out hx))⟩
              have HGX : Hid (∀ wx, (wo.alloc (.cells #[.int .u32 ya.toNat, .int .u64 yb.toNat, .slice A6 yl.length c6] 33)).grownBy wx none → w3.grownBy wx none) := fun wx hx => gr_none HGW.out (gr_none HG8.out hx)
              have HGZ : Hid (∀ wx, (wo.alloc (.cells #[.int .u32 ya.toNat, .int .u64 yb.toNat, .slice A6 yl.length c6] 33)).grownBy wx none → wc.grownBy wx none) := fun wx hx => gr_none HGQ.out (gr_none HG8.out hx)
              go_upto_region 20 with fail
              clear d0 d1 d2
              generalize hW8 : wo.alloc (.cells #[.int .u32 ya.toNat, .int .u64 yb.toNat, .slice A6 yl.length c6] 33) = w8 at *
              clear hW8 HG8
              go_cut [72] from 44 to 101 (fun s72 wd => (∃ q : Bool, s72 = .bool q ∧ Hid (q = true ↔ (t = i ∨ ¬ nearD ⟨xa, xb, xl⟩ ⟨ya, yb, yl⟩))) ∧ w8.grownBy wd none)
              case first =>
                by_cases hti : t = i
                · have b1 : ((t : Int) == (i : Int)) = true := by rw [beq_iff_eq]; omega
                  have HTI := Lib.hid hti
                  clear hti
                  go_wp2_with fail
                  go_meet
                  case rel => exact ⟨⟨true, rfl, Lib.hid ⟨fun _ => .inl HTI.out, fun _ => rfl⟩⟩, gr_refl _ _⟩
                · have b1 : ((t : Int) == (i : Int)) = false := by rw [beq_eq_false_iff_ne]; omega
                  have HTI := Lib.hid hti
                  have HH1 := Lib.hid (has_any _ xl ya w8 (Rd.ext HXL.out (HGX.out w8 (gr_refl _ _))) (by omega))
                  have HH2 := Lib.hid fun (wx : World) (hx : w8.grownBy wx none) => has_any _ yl xa wx (Rd.ext HYL.out (HGX.out wx hx)) (by omega)
                  obtain ⟨⟨y0, y1, y2⟩, x0, x1, x2⟩ := HFY.out w8 (gr_refl _ _)
                  clear hti
                  go_wp2_with fail
                  refine HH1.out.mono ?_
                  rintro e w9 ⟨⟨h1, rfl, hh1⟩, g9⟩
                  have G9 := Lib.hid g9
                  have H1 := Lib.hid hh1
                  clear g9 hh1 y0 y1 y2 x0 x1 x2 HH1
                  obtain ⟨⟨y0, y1, y2⟩, x0, x1, x2⟩ := HFY.out w9 G9.out
                  cases h1
                  · have HH3 := Lib.hid (HH2.out w9 G9.out)
                    go_wp2_with fail
                    refine HH3.out.mono ?_
                    rintro e wa ⟨⟨h2, rfl, hh2⟩, ga⟩
                    have GA := Lib.hid (gr_none G9.out ga)
                    have H2 := Lib.hid hh2
                    clear ga hh2 HH3
                    cases h2
                    · go_wp2_with fail
                      go_meet
                      case rel => exact ⟨⟨true, rfl, Lib.hid ⟨fun _ => .inr (fun hn => by
                        rcases hn with hn | hn
                        · have := H1.out.2 hn; cases this
                        · have := H2.out.2 hn; cases this), fun _ => rfl⟩⟩, GA.out⟩
                    · go_wp2_with fail
                      go_meet
                      case rel => exact ⟨⟨false, rfl, Lib.hid ⟨fun h => (by cases h), fun h => by
                        rcases h with h | h
                        · exact absurd h HTI.out
                        · exact absurd (.inr (H2.out.1 (by first | rfl | trivial))) h⟩⟩, GA.out⟩
                  · go_wp2_with fail
                    go_meet
                    case rel => exact ⟨⟨false, rfl, Lib.hid ⟨fun h => (by cases h), fun h => by
                      rcases h with h | h
                      · exact absurd h HTI.out
                      · exact absurd (.inl (H1.out.1 (by first | rfl | trivial))) h⟩⟩, G9.out⟩
              case rest =>
                obtain ⟨⟨q, rfl, hq⟩, hgd⟩ := hcut
                have HGD := Lib.hid hgd
                clear hgd
                cases q
                · have hqn : ¬ (t = i ∨ ¬ nearD ⟨xa, xb, xl⟩ ⟨ya, yb, yl⟩) := fun h => by have := hq.out.2 h; cases this
                  have hti : t ≠ i := fun e => hqn (.inl e)
                  have hnr : nearD ⟨xa, xb, xl⟩ ⟨ya, yb, yl⟩ := Decidable.byContradiction fun e => hqn (.inr e)
                  have HNI := Lib.hid (HPT.out hti hnr)
                  have HBN : Hid (behindK m i (t + 1) ⟨xa, xb, xl⟩ ↔ behindK m i t ⟨xa, xb, xl⟩ ∨ aheadD ⟨ya, yb, yl⟩ ⟨xa, xb, xl⟩) := by
                    show _ ↔ _
                    rw [HBS.out]
                    exact or_congr Iff.rfl ⟨fun h => h.2.2, fun h => ⟨hti, hnr, h⟩⟩
                  obtain ⟨wd, rfl⟩ : ∃ wd, wd = wc := ⟨_, rfl⟩
                  clear hqn hti hnr hq HBS HPT
                  go_upto_region 21 with fail
                  go_cut [79] from 44 to 101 (fun s79 we => s79 = .bool false ∧ w8.grownBy we none)
                  case first =>
                    obtain ⟨⟨y0, y1, y2⟩, x0, x1, x2⟩ := HFY.out wd HGD.out
                    cases is
                    · go_wp2_with fail
                      go_meet
                      case rel => exact ⟨rfl, HGD.out⟩
                    · have HH4 := Lib.hid (has_any _ out ya wd (Rd.ext HO3.out (HGX.out wd HGD.out)) (by omega))
                      go_wp2_with fail
                      refine HH4.out.mono ?_
                      rintro e wa ⟨⟨h4, rfl, hh4⟩, ga⟩
                      have GA := Lib.hid (gr_none HGD.out ga)
                      have H4 := Lib.hid hh4
                      clear ga hh4 HH4
                      cases h4
                      · go_wp2_with fail
                        go_meet
                        case rel => exact ⟨rfl, GA.out⟩
                      · exact absurd (H4.out.1 (by first | rfl | trivial)) (HNI.out (HIV.out.1 (by first | rfl | trivial)))
                  case rest =>
                    obtain ⟨rfl, hge⟩ := hcut
                    have HGF := Lib.hid (HGZ.out _ hge)
                    obtain ⟨⟨y0, y1, y2⟩, x0, x1, x2⟩ := HFY.out _ hge
                    clear hge HNI
                    cases bh
                    · by_cases hk1 : yb.toNat < xb.toNat
                      · have HN : Hid (true = true ↔ behindK m i (t + 1) ⟨xa, xb, xl⟩) := ⟨fun _ => HBN.out.2 (.inr (.inl hk1)), fun _ => rfl⟩
                        clear hbh HBN
                        go_wp2
                        go_roundw
                        case rel => exact ⟨t + 1, true, by omega, rfl, by go_num, ⟨fun _ => HN.out.1 (by first | rfl | trivial), fun _ => rfl⟩, HGF.out⟩
                        case measure => simp [intOf]; omega
                      · by_cases hk2 : yb.toNat = xb.toNat
                        · have b1 : ((yb.toNat : Int) == (xb.toNat : Int)) = true := by simp; omega
                          by_cases hk3 : ya.toNat < xa.toNat
                          · have HN : Hid (behindK m i (t + 1) ⟨xa, xb, xl⟩) := HBN.out.2 (.inr (.inr ⟨hk2, hk3⟩))
                            clear hbh HBN hk2
                            go_wp2
                            go_roundw
                            case rel => exact ⟨t + 1, true, by omega, rfl, by go_num, ⟨fun _ => HN.out, fun _ => rfl⟩, HGF.out⟩
                            case measure => simp [intOf]; omega
                          · have HN : Hid (¬ behindK m i (t + 1) ⟨xa, xb, xl⟩) := fun h => by
                              rcases HBN.out.1 h with h | h | ⟨_, h⟩
                              · have := hbh.out.2 h; cases this
                              · exact hk1 h
                              · exact hk3 h
                            clear hbh HBN hk2
                            go_wp2
                            go_roundw
                            case rel => exact ⟨t + 1, false, by omega, rfl, by go_num, ⟨fun h => (by cases h), fun h => absurd h HN.out⟩, HGF.out⟩
                            case measure => simp [intOf]; omega
                        · have b1 : ((yb.toNat : Int) == (xb.toNat : Int)) = false := by simp; omega
                          have HN : Hid (¬ behindK m i (t + 1) ⟨xa, xb, xl⟩) := fun h => by
                            rcases HBN.out.1 h with h | h | ⟨h, _⟩
                            · have := hbh.out.2 h; cases this
                            · exact hk1 h
                            · exact hk2 h
                          clear hbh HBN hk2
                          go_wp2
                          go_roundw
                          case rel => exact ⟨t + 1, false, by omega, rfl, by go_num, ⟨fun h => (by cases h), fun h => absurd h HN.out⟩, HGF.out⟩
                          case measure => simp [intOf]; omega
                    · have HN : Hid (behindK m i (t + 1) ⟨xa, xb, xl⟩) := HBN.out.2 (.inl (hbh.out.1 (by first | rfl | trivial)))
                      clear hbh HBN
                      go_wp2
                      go_roundw
                      case rel => exact ⟨t + 1, true, by omega, rfl, by go_num, ⟨fun _ => HN.out, fun _ => rfl⟩, HGF.out⟩
                      case measure => simp [intOf]; omega
                · have HN : Hid (bh = true ↔ behindK m i (t + 1) ⟨xa, xb, xl⟩) := by
                    show _ ↔ _
                    rw [HBS.out, hbh.out]
                    constructor
                    · exact .inl
                    · rintro (h | ⟨h1, h2, _⟩)
                      · exact h
                      · rcases hq.out.1 (by first | rfl | trivial) with h | h
                        · exact absurd h h1
                        · exact absurd h2 h
                  have HGE := Lib.hid (HGZ.out _ HGD.out)
                  clear hq hbh
                  go_wp2
                  go_roundw
                  case rel => exact ⟨t + 1, bh, by omega, rfl, by go_num, HN, HGE.out⟩
                  case measure => simp [intOf]; omega
            · obtain rfl : t = m.length := by omega
              have HBT := Lib.hid (hbh.out.trans HBA.out)
              have hne : (is == bh) = false := by
                rw [beq_eq_false_iff_ne]
                intro e
                have h1 := HI.out
                have h2 := HBT.out
                rw [e] at h1
                exact (iff_not_self (a := lateD (m.map Cd.d) ⟨xa, xb, xl⟩)) (h2.symm.trans h1)
              clear hbh
              go_wp2
              go_roundw
              case rel => exact ⟨i + 1, pd, by omega, by go_num, rfl, hpd, hpdi, gr_none HG4.out HGQ.out⟩
              case measure => simp [intOf]; omega
      · obtain rfl : i = m.length := by omega
        have HPC : Hid (pc = out.length) := by
          have := hpc.out
          rw [List.take_length, cntO_all HP.out HU.out rfl] at this
          exact this
        obtain ⟨g8, off8, hA8, hc8⟩ := RdU.at_ HO3.out
        have HA8 := Lib.hid hA8
        have HC8 := Lib.hid hc8
        have HRS := Lib.hid HP.out.1
        clear hpc hA8 hc8
        go_wp2
        go_loopw [12] (fun i wq => ∃ t : Nat, 1 ≤ t ∧ t ≤ out.length + 1 ∧ i = .int .i64 t ∧ w3.grownBy wq none) (fun i _ => out.length + 1 - (intOf i).toNat)
        case atStart => exact ⟨1, by omega, by omega, rfl, HG.out⟩
        case round =>
          obtain ⟨t, ht1, ht2, rfl, hgq⟩ := hrel
          have HGQ := Lib.hid hgq
          clear hgq
          by_cases htl : t < out.length
          · have := HA8.out (by omega)
            subst this
            obtain ⟨s, rfl⟩ : ∃ s, t = s + 1 := ⟨t - 1, by omega⟩
            have c0 := HGQ.out.cell (HC8.out s (by omega)) (by simp)
            have c1 := HGQ.out.cell (HC8.out (s + 1) htl) (by simp)
            have hrs : out[s].toNat < out[s + 1].toNat := List.pairwise_iff_getElem.1 HRS.out s (s + 1) (by omega) htl (by omega)
            have hle : ¬ out[s + 1].toNat ≤ out[s].toNat := by omega
            generalize out[s] = y0 at *
            generalize out[s + 1] = y1 at *
            have hs1 : IntKind.i64.wrap (s : Int) = (s : Int) := by rw [IntWalk.i64_in _ (by omega)]
            clear hrs
            go_wp2_with fail
            go_quiet (fail)
            go_wp2
            go_roundw
            case rel => exact ⟨s + 2, by omega, by omega, by go_num, gr_none HGQ.out (gr_drewN _ _ _)⟩
            case measure => simp [intOf]; omega
          · have hpo : ((pc : Int) == (out.length : Int)) = true := by rw [beq_iff_eq, HPC.out]
            have HGR := Lib.hid (gr_none G3.out HGQ.out)
            go_wp2_with fail
            refine (HW.out _).mono ?_
            rintro e w9 ⟨rfl, g9⟩
            have G9 := Lib.hid (gr_none HGR.out g9)
            clear g9
            go_wp2
            go_ret
            exact ⟨rfl, G9.out⟩
  · clear HB
    go_wp2_with fail
    refine (HW.out _).mono ?_
    rintro e w3 ⟨rfl, g3⟩
    have G3 := Lib.hid (gr_none G1.out g3)
    clear g3
    go_wp2
    go_ret
    exact ⟨rfl, G3.out⟩
end Go.Proofs.Ytbdieifggciopaa
