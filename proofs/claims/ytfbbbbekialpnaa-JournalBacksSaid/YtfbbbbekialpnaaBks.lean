/-
  JournalBacks, the walk.
-/
import Derived.Test.YtfbbbbekialpnaaJs
import Derived.Test.YtfbbbbekialpnaaCuts
namespace Go.Proofs.Ytfbbbbekialpnaa
open Go.RowKit
set_option maxRecDepth 100000
set_option maxHeartbeats 400000

/-- append of records, in a region. -/
theorem step_appR {ops : Array Oper} {q : Oper} {a : Act} {w : World} {K : Act → World → Prop} {Q : Exit → Act → World → Prop} {E : Prop} (hg : q.guard = none) (s0 x0 : Operand) (ho : q.op = .call { callee := .builtin .append, args := #[s0, x0], argTypes := #[49, 49] })
    {B : Nat} {v x : Value} {l m : List Rc} (hs : a.eval s0 = v) (hown : OwnR w B v l) (hx : a.eval x0 = x) (hr : RdR w x m) (hn : l.length + m.length ≤ 1000000000) (hB : B ≤ w.heap.size)
    (hK : ∀ v' w', OwnR w' B v' (l ++ m) → w.grownBy w' v.ownBlock → K (a.put q.dst v') w') : if Region.wanted q (yielded ops a.tmps) = true then Oper.wp Try.prog q a w K Q else E := by
  have hw : Region.wanted q (yielded ops a.tmps) = true := by simp [Region.wanted, hg]
  rw [if_pos hw]
  obtain ⟨v', w', hrun, h2, h3, h4⟩ := run_app (P := Try.prog) w B 49 q.type 58 _ 3 12 Try.underlying49 Try.infoR rfl (by omega) v _ _ hown x _ _ hr (rc_one m) (by unfold maxLen; omega) (by omega) hB
  unfold Oper.wp execOp
  simp only [ho, resolve, invoke, builtin, Sem.run_bind, Sem.run_pure, Result.andThen_ok, List.map_toArray, List.map_cons, List.map_nil, hs, hx, hrun]
  exact hK _ _ (ownR_app h2) h3
theorem ownR_at0 (w : World) {B b : Nat} (hb : B ≤ b) : OwnR w B (.slice (some ⟨b, 0, none⟩) 0 0) [] :=
  ⟨by simp [rcL], some ⟨b, 0, none⟩, 0, b, 0, rfl, Nat.le_refl _, Nat.zero_le _, fun _ => rfl, fun h => absurd h (by omega), fun a e => by cases e; exact hb, fun j hj => by simp at hj, fun j hj => by simp at hj⟩
theorem rdR_one (w : World) (r : Rc) : RdR (w.alloc (.cells #[.int .u32 r.k.toNat, .int .u32 r.a.toNat, .int .u32 r.b.toNat] 58)) (.slice (some ⟨w.heap.size, 0, none⟩) 1 1) [r] :=
  rd_lit w 3 1 1 #[.int .u32 r.k.toNat, .int .u32 r.a.toNat, .int .u32 r.b.toNat] 58 rfl (Nat.le_refl _) (by unfold maxLen; omega)
theorem gr_at0 {W w1 w2 : World} {b : Nat} (h : W.grownBy w1 none) (g : w1.grownBy w2 (Value.slice (some ⟨b, 0, none⟩) 0 0).ownBlock) (hb : W.heap.size ≤ b) : W.grownBy w2 none :=
  gr_trans h g (.inr fun j e => by cases e; exact hb)
theorem rdR_b (w : World) (o : Obj) (r : Rc) {w1 : World} (g : (((w.alloc o).alloc (.cells #[.int .u32 r.k.toNat, .int .u32 r.a.toNat, .int .u32 r.b.toNat] 58)).drew).grownBy w1 (Value.slice (some ⟨w.heap.size, 0, none⟩) 0 0).ownBlock) : RdR w1 (.slice (some ⟨w.heap.size + 1, 0, none⟩) 1 1) [r] := by
  have h := rdR_one (w.alloc o) r
  rw [World.size_alloc] at h
  refine Rd.gr (RdR.ext h (gr_drew _ none)) g fun k e => ?_
  cases e
  simp [Value.ownBlock]
theorem rdR_c (w : World) (o : Obj) (r : Rc) {w1 : World} (g : (((w.alloc (.cells #[.int .u32 r.k.toNat, .int .u32 r.a.toNat, .int .u32 r.b.toNat] 58)).alloc o).drew).grownBy w1 (Value.slice (some ⟨w.heap.size + 1, 0, none⟩) 0 0).ownBlock) : RdR w1 (.slice (some ⟨w.heap.size, 0, none⟩) 1 1) [r] := by
  refine Rd.gr (RdR.ext (RdR.ext (rdR_one w r) (gr_alloc _ _ none)) (gr_drew _ none)) g fun k e => ?_
  cases e
  simp [Value.ownBlock]
def FilJ (w0 : World) (d jb : Nat) (l : List Rc) (k : Nat) (wr : World) : Prop := ∃ S, JS w0 d jb S (l.take k) wr ∧ Jd S (l.take k) (64 * k) ∧ ∀ r ∈ l.take k, r.k ≠ 0
set_option maxHeartbeats 4000000 in
theorem backs_any (v : Value) (l : List Rc) (n : Int) (hn : -9223372036854775808 ≤ n ∧ n ≤ 9223372036854775807) (r : Rc) (w : World) (h : RdR w v l) :
    Calls Try.prog 7 #[v, .int .i64 n, .agg #[.int .u32 r.k.toNat, .int .u32 r.a.toNat, .int .u32 r.b.toNat]] w fun e w' => e = .returned (.bool true) ∧ w.grownBy w' none := by
  obtain ⟨A, c0, rfl⟩ := h.form
  by_cases hbig : 40 < l.length
  · clear h
    go_enter Try.func7, Try.ntmps7
    go_wp2_with (go_at_call 29; refine (works_any _).mono ?_; rintro e w1 ⟨rfl, g1⟩)
    go_ret
    exact ⟨rfl, gr_none (gr_alloc _ _ _) g1⟩
  have hl : l.length ≤ 40 := by omega
  have hdl : decide ((40 : Int) < (l.length : Int)) = false := by simp; omega
  clear hbig
  by_cases hr0 : r.k = 0
  · have hk : r.k.toNat = 0 := by rw [hr0]; rfl
    rw [hk]
    clear h hr0 hk
    go_enter Try.func7, Try.ntmps7
    go_wp2_with (go_at_call 29; refine (works_any _).mono ?_; rintro e w1 ⟨rfl, g1⟩)
    go_ret
    exact ⟨rfl, gr_none (gr_alloc _ _ _) g1⟩
  have hk0 : ((r.k.toNat : Int) == 0) = false := by
    rw [beq_eq_false_iff_ne]
    intro e
    exact hr0 (UInt32.toNat_inj.1 (by simpa using e))
  have HR0 := Lib.hid hr0
  clear hr0
  obtain ⟨wb, hwb⟩ : ∃ wb, wb = w.alloc (.cells #[.int .u32 r.k.toNat, .int .u32 r.a.toNat, .int .u32 r.b.toNat] 58) := ⟨_, rfl⟩
  have GB : Hid (w.grownBy wb none) := by show w.grownBy wb none; rw [hwb]; exact gr_alloc _ _ _
  have HRB : Hid (Blk wb w.heap.size 58 #[.int .u32 r.k.toNat, .int .u32 r.a.toNat, .int .u32 r.b.toNat]) := by show Blk _ _ _ _; rw [hwb]; exact Blk.new _ _ _
  have HV := Lib.hid (RdR.ext h GB.out)
  obtain ⟨g, off, hA, hcap, _, hcells⟩ := (RdR.ext h GB.out).at_
  have HA := Lib.hid hA
  have HC := Lib.hid hcells
  have HWB := Lib.hid hwb
  clear hA hcells h hwb
  have HNEW := Lib.hid (DA.new 1024 wb (by omega))
  have HAD : Hid (∀ (wx : World) (d jb : Nat) (k : Nat) (hk : k < l.length), FilJ wb d jb l k wx → l[k].k ≠ 0 → Calls Try.prog 33 #[.pointer (some ⟨jb, 0, none⟩), .agg l[k].cells] wx fun e w' => e = .returned (.int .i64 0) ∧ FilJ wb d jb l (k + 1) w') := fun wx d jb k hk hr h0 => by
    obtain ⟨S, h1, h2, h5⟩ := hr
    have hlen : (l.take k).length = k := by rw [List.length_take]; omega
    have hsn : l.take (k + 1) = l.take k ++ [l[k]] := by rw [List.take_add_one, List.getElem?_eq_getElem hk]; rfl
    refine (h1.add h2 l[k] h0 (by omega) (by omega)).mono ?_
    rintro e w' ⟨rfl, h3⟩
    refine ⟨rfl, addD S (l.take k).length l[k], ?_, ?_, ?_⟩
    · rw [hsn]; exact h3
    · rw [hsn, Nat.mul_add]; exact h2.add l[k]
    · intro r hr
      rw [hsn] at hr
      rcases List.mem_append.1 hr with hr | hr
      · exact h5 r hr
      · rw [List.mem_singleton.1 hr]; exact h0
  go_enter Try.func7, Try.ntmps7
  go_wp2_with fail
  rw [← HWB.out]
  refine HNEW.out.mono ?_
  rintro e w1 ⟨d, o, rfl, h1⟩
  have HOP := Lib.hid (h1.jopen ⟨rfl, rfl⟩ (by simp [newD]))
  clear h1
  go_wp2_with fail
  refine HOP.out.mono ?_
  rintro e w2 ⟨jb, rfl, h2, -⟩
  have H0 : Hid (FilJ wb d jb l 0 w2) := ⟨_, h2, Jd.open_, fun r hr => by simp at hr⟩
  clear h2 HOP
  go_wp2_with fail
  go_loopw [10, 11] (fun i _ wr => ∃ k : Nat, k ≤ l.length ∧ i = .int .i64 k ∧ FilJ wb d jb l k wr) (fun i _ _ => l.length - (intOf i).toNat)
  case atStart => exact ⟨0, by omega, rfl, H0.out⟩
  case round =>
    obtain ⟨k, hk, rfl, hr⟩ := hrel
    have HR := Lib.hid hr
    have hg : wb.grownBy wr none := by obtain ⟨S, h1, _⟩ := hr; exact h1.gr
    clear hr H0
    by_cases hlt : k < l.length
    · have := HA.out (by omega)
      subst this
      have HADk := Lib.hid (HAD.out wr d jb k hlt HR.out)
      rcases hx : l[k] with ⟨xa, xb, xc⟩
      obtain ⟨q0, q1, q2⟩ := at3 HC.out hg hlt hx
      by_cases h0 : xa = 0
      · subst h0
        have GR := Lib.hid (gr_none GB.out hg)
        clear HADk hx hg
        go_wp2_with (go_at_call 29; refine (works_any _).mono ?_; rintro e w5 ⟨rfl, g5⟩)
        go_ret
        exact ⟨rfl, gr_none GR.out g5⟩
      · have HK := Lib.hid (HADk.out (by rw [hx]; exact h0))
        rw [hx] at HK
        unfold Rc.cells at HK
        have hxa0 : ((xa.toNat : Int) == 0) = false := by
          rw [beq_eq_false_iff_ne]
          intro e
          exact h0 (UInt32.toNat_inj.1 (by simpa using e))
        have GR := Lib.hid hg
        clear HADk hx hg h0
        go_wp2_with fail
        refine HK.out.mono ?_
        rintro e w5 ⟨rfl, r5⟩
        have R5 := Lib.hid r5
        clear r5
        go_wp2
        go_roundw
        case rel => exact ⟨k + 1, by omega, by go_num, R5.out⟩
        case measure => simp [intOf]; omega
    · obtain rfl : k = l.length := by omega
      obtain ⟨S, h1, h2, h3⟩ := HR.out
      rw [List.take_of_length_le (Nat.le_refl _)] at h1 h2 h3
      have HJ := Lib.hid h1
      have HD := Lib.hid h2
      have HK3 := Lib.hid h3
      clear h1 h2 h3 HR hg
      by_cases hbad : n < 0 ∨ (l.length : Int) < n
      · have HB : Hid (Calls Try.prog 43 #[.pointer (some ⟨jb, 0, none⟩), .int .i64 n] wr fun e w' => e = .returned (.int .i64 1) ∧ wr = w') := by
          obtain ⟨_, _, _, hj⟩ := HJ.out
          exact back_bad hj n hbad
        have HRE := Lib.hid (HJ.out.recs (by omega))
        have hd1 : decide (n < 0) = true ∨ decide ((l.length : Int) < n) = true := by simpa using hbad
        have GJ := Lib.hid HJ.out.gr
        go_wp2_with fail
        refine HB.out.mono ?_
        rintro e w3 ⟨rfl, rfl⟩
        have HSM : Hid (∀ wx v', wr.grownBy wx none → OwnR wx wr.heap.size v' l → Calls Try.prog 44 #[v', .slice A l.length c0] wx fun e w' => e = .returned (.bool true) ∧ wx.grownBy w' none) := fun wx v' hx ho => by
          refine (same_any v' _ l l wx ho.rd (RdR.ext HV.out (gr_none GJ.out hx)) (by omega) (by omega)).mono ?_
          rintro e w' ⟨⟨b, rfl, hb⟩, g'⟩
          exact ⟨by rw [hb.2 rfl], g'⟩
        clear HJ hbad
        rcases hd1 with hd1 | hd1
        · go_wp2_with fail
          refine HRE.out.mono ?_
          rintro e w4 ⟨⟨v4, rfl, o4⟩, g4⟩
          have HS4 := Lib.hid (HSM.out _ _ g4 o4)
          have G4 := Lib.hid (gr_none (gr_none GB.out GJ.out) g4)
          clear o4 g4
          go_wp2_with fail
          refine HS4.out.mono ?_
          rintro e w5 ⟨rfl, g5⟩
          go_wp2_with (go_at_call 29; refine (works_any _).mono ?_; rintro e w6 ⟨rfl, g6⟩)
          go_ret
          exact ⟨rfl, gr_none (gr_none G4.out g5) g6⟩
        · have hd2 : decide (n < 0) = false := by simp at hd1 ⊢; omega
          go_wp2_with fail
          refine HRE.out.mono ?_
          rintro e w4 ⟨⟨v4, rfl, o4⟩, g4⟩
          have HS4 := Lib.hid (HSM.out _ _ g4 o4)
          have G4 := Lib.hid (gr_none (gr_none GB.out GJ.out) g4)
          clear o4 g4
          go_wp2_with fail
          refine HS4.out.mono ?_
          rintro e w5 ⟨rfl, g5⟩
          go_wp2_with (go_at_call 29; refine (works_any _).mono ?_; rintro e w6 ⟨rfl, g6⟩)
          go_ret
          exact ⟨rfl, gr_none (gr_none G4.out g5) g6⟩
      · obtain ⟨m, rfl⟩ := Int.eq_ofNat_of_zero_le (show 0 ≤ n by omega)
        have hm : m ≤ l.length := by omega
        have hd1 : decide ((l.length : Int) < (m : Int)) = false := by simp; omega
        have hd2 : decide (l.length < m) = false := by simp; omega
        have HB := Lib.hid (HJ.out.back HD.out hm (by omega))
        have hD1 := HD.out.back hm
        obtain ⟨L1, hL1⟩ : ∃ L1, L1 = l.take m := ⟨_, rfl⟩
        have hlen1 : L1.length = m := by rw [hL1, List.length_take]; omega
        have hk1 : ∀ q ∈ L1 ++ [r], q.k ≠ 0 := fun q hq => by
          rcases List.mem_append.1 hq with hq | hq
          · rw [hL1] at hq; exact HK3.out q (List.mem_of_mem_take hq)
          · rw [List.mem_singleton.1 hq]; exact HR0.out
        rw [← hL1] at HB hD1
        have HK1 := Lib.hid hk1
        have HL1 := Lib.hid hL1
        have HD1 := Lib.hid hD1
        have hmi : (m : Int) ≤ (l.length : Int) := by omega
        clear hbad hn hk1 hL1 hD1 HK3 HJ
        go_wp2_with fail
        refine HB.out.mono ?_
        rintro e w3 ⟨rfl, h3⟩
        have hb3 := HRB.out.ext h3.gr
        have c0' : w3.cell? ⟨w.heap.size, 0, none⟩ = some (.int .u32 r.k.toNat) := hb3.cell 0
        have c1' : w3.cell? ⟨w.heap.size, 1, none⟩ = some (.int .u32 r.a.toNat) := hb3.cell 1
        have c2' : w3.cell? ⟨w.heap.size, 2, none⟩ = some (.int .u32 r.b.toNat) := hb3.cell 2
        have HADD := Lib.hid (h3.add HD1.out r HR0.out (by omega) (by omega))
        have hD2 := HD1.out.add r
        have hO2 := HD1.out.addOne r
        obtain ⟨S2, hS2⟩ : ∃ S2, S2 = addD (backD S m) L1.length r := ⟨_, rfl⟩
        rw [← hS2] at HADD hD2 hO2
        unfold Rc.cells at HADD
        have HD2 := Lib.hid hD2
        have HO2 := Lib.hid hO2
        have HD2S := Lib.hid hD2.sm
        clear h3 hb3 HB hD2 hS2 hO2
        go_wp2_with fail
        refine HADD.out.mono ?_
        rintro e w4 ⟨rfl, h4⟩
        have hb4 := HRB.out.ext h4.gr
        have e0 : w4.cell? ⟨w.heap.size, 0, none⟩ = some (.int .u32 r.k.toNat) := hb4.cell 0
        have e1 : w4.cell? ⟨w.heap.size, 1, none⟩ = some (.int .u32 r.a.toNat) := hb4.cell 1
        have e2 : w4.cell? ⟨w.heap.size, 2, none⟩ = some (.int .u32 r.b.toNat) := hb4.cell 2
        have H4 := Lib.hid h4
        have HB4 := Lib.hid hb4
        have hmc : (m : Int) ≤ (c0 : Int) := by omega
        have hm0 : (0 : Int) ≤ (m : Int) := by omega
        clear h4 hb4 HADD c0' c1' c2'
        go_wp2_with fail
        have hrv : Hid (∀ wx, w4.grownBy wx none → RdR wx (.slice A m c0) L1) := fun wx hx => by
          have := (RdR.ext HV.out (gr_none H4.out.gr hx)).takeF hm
          rw [← HL1.out] at this
          exact this
        have HX : Hid (∀ wx, w4.grownBy wx none → wx.cell? ⟨w.heap.size, 0, none⟩ = some (.int .u32 r.k.toNat) ∧ wx.cell? ⟨w.heap.size, 1, none⟩ = some (.int .u32 r.a.toNat) ∧ wx.cell? ⟨w.heap.size, 2, none⟩ = some (.int .u32 r.b.toNat)) := fun wx hx => ⟨(HB4.out.ext hx).cell 0, (HB4.out.ext hx).cell 1, (HB4.out.ext hx).cell 2⟩
        go_region_held3 (fun w' => w'.cell? ⟨w.heap.size, 0, none⟩ = some (.int .u32 r.k.toNat) ∧ w'.cell? ⟨w.heap.size, 1, none⟩ = some (.int .u32 r.a.toNat) ∧ w'.cell? ⟨w.heap.size, 2, none⟩ = some (.int .u32 r.b.toNat))
          (first | exact hk1 | exact hk2 | go_keep)
          (first
            | ((refine step_appR (B := w4.heap.size) (by rfl) (l := []) (m := L1) (.tmp 85) (.tmp 88) (by rfl) (by rfl) (ownR_at0 _ (Nat.le_refl _)) (by rfl) (hrv.out _ (gr_none (gr_alloc _ _ none) (gr_drew _ none))) (by simp; omega) (by simp) ?_; rintro v1 w1 o1 g1; have g41 : w4.grownBy w1 none := gr_at0 (gr_none (gr_alloc _ _ none) (gr_drew _ none)) g1 (Nat.le_refl _); have hk1 := HX.out _ g41; have G41 := Lib.hid g41; clear g1 g41))
            | ((refine step_appR (B := w4.heap.size) (by rfl) (l := []) (m := L1) (.tmp 85) (.tmp 88) (by rfl) (by rfl) (ownR_at0 _ (Nat.le_refl _)) (by rfl) (hrv.out _ (gr_none (gr_none (gr_alloc _ _ none) (gr_alloc _ _ none)) (gr_drew _ none))) (by simp; omega) (by simp; omega) ?_; rintro v1 w1 o1 g1; have g41 : w4.grownBy w1 none := gr_at0 (gr_none (gr_none (gr_alloc _ _ none) (gr_alloc _ _ none)) (gr_drew _ none)) g1 (Nat.le_refl _); have hr2 := rdR_b w4 _ r g1; have hk1 := HX.out _ g41; have G41 := Lib.hid g41; clear g1 g41))
            | ((refine step_appR (B := w4.heap.size) (by rfl) (l := []) (m := L1) (.tmp 85) (.tmp 88) (by rfl) (by rfl) (ownR_at0 _ (Nat.le_succ _)) (by rfl) (hrv.out _ (gr_none (gr_none (gr_alloc _ _ none) (gr_alloc _ _ none)) (gr_drew _ none))) (by simp; omega) (by simp; omega) ?_; rintro v1 w1 o1 g1; have g41 : w4.grownBy w1 none := gr_at0 (gr_none (gr_none (gr_alloc _ _ none) (gr_alloc _ _ none)) (gr_drew _ none)) g1 (Nat.le_succ _); have hr2 := rdR_c w4 _ r g1; have hk1 := HX.out _ g41; have G41 := Lib.hid g41; clear g1 g41))
            | ((refine step_appR (B := w4.heap.size) (by rfl) (l := L1) (m := [r]) (.tmp 89) (.tmp 91) (by rfl) (by rfl) (by first | exact o1 | exact Own.alloc o1 _) (by rfl) (by first | exact hr2 | exact rdR_one _ _) (by simp; omega) (by have := G41.out.size; first | omega | (simp; omega)) ?_; rintro v2 w2 o2 g2; have g42 : w4.grownBy w2 none := gr_trans (by first | exact G41.out | exact gr_none G41.out (gr_alloc _ _ none)) g2 (.inr fun j e => Own.lt o1 j e); have hk2 := HX.out _ g42; have G42 := Lib.hid g42; have O2 := Lib.hid o2; clear g2 g42 o2)))
        all_goals
          have hlen2 : (L1 ++ [r]).length = m + 1 := by simp; omega
          obtain ⟨A2, c2, rfl⟩ := O2.out.rd.form
          obtain ⟨o4, v4, hda4, hj4⟩ := H4.out
          have HKP2 := Lib.hid (Kp.new hda4 O2.out (by omega))
          have HJ2 := Lib.hid (hj4.ch (Ch.ext G42.out))
          have HA2 := Lib.hid (hda4.ext G42.out)
          have HARM := Lib.hid (HA2.out.arm (1 : Nat) (by omega))
          rw [HO2.out.arm 1] at HARM
          have HLEN2 := Lib.hid hlen2
          rw [hlen2] at HKP2 ⊢
          clear hlen2
          clear hda4 hj4 hk1 hk2 O2 o1
          go_wp2_with fail
          refine HARM.out.mono ?_
          rintro e w5 ⟨rfl, o5, h5, ch5⟩
          have HCR := Lib.hid (h5.create xn (by simp [xn]) (by rw [HO2.out.fl]; omega))
          rw [create_off] at HCR
          have HJ5 := Lib.hid (HJ2.out.ch ch5)
          have HK5 := Lib.hid (HKP2.out.ch ch5 (by omega))
          clear h5 ch5 HARM HA2 HJ2 HKP2
          go_wp2_with fail
          refine HCR.out.mono ?_
          rintro e w6 ⟨rfl, o6, h6, ch6⟩
          have k6 := HD2S.out.off
          have HON := Lib.hid (h6.on k6.li (by have := k6.nl; omega) (by have := k6.fl; omega) rfl (rd_nilI w6) (by simp))
          have HJ6 := Lib.hid (HJ5.out.ch ch6)
          have HK6 := Lib.hid (HK5.out.ch ch6 (by omega))
          clear h6 ch6 HCR k6 HJ5 HK5
          go_wp2_with fail
          refine HON.out.mono ?_
          rintro e w7 ⟨rfl, ls, -, o7, h7, ch7⟩
          have q7 := HO2.out.lit (onT S2.off [] ls ls.length)
          have e7 : onT S2.off [] ls ls.length jn = secs 0 (L1 ++ [r]) := by rw [onT_nil, off_lastsOf, HO2.out.lastsOf]
          rw [e7] at q7
          obtain ⟨S7, hS7⟩ : ∃ S7, S7 = S2.off.lit (onT S2.off [] ls ls.length) := ⟨_, rfl⟩
          rw [← hS7] at q7 h7
          obtain ⟨hrec, q8⟩ := q7.recs HK1.out (by rw [HLEN2.out]; omega)
          have HOPN := Lib.hid (h7.jopen q7.idle (by rw [q7.fl]; omega))
          rw [hrec] at HOPN
          have HJ7 := Lib.hid (HJ6.out.ch ch7)
          have HK7 := Lib.hid (HK6.out.ch ch7 (by omega))
          have HQ8 := Lib.hid q8
          clear h7 ch7 HON q7 e7 hS7 hrec q8 HJ6 HK6
          go_wp2_with fail
          refine HOPN.out.mono ?_
          rintro e w8 ⟨jb2, rfl, -, o8, ch8, h8, v8, hj8⟩
          have hrd := HQ8.out.read jn_right 0 1048576
          have hsl : (secs 0 (L1 ++ [r])).length = 64 * (m + 1) := by rw [secs_len, HLEN2.out]
          rw [List.drop_zero, List.take_of_length_le (by rw [hsl]; omega)] at hrd
          have HRD := Lib.hid (h8.read jn (by simp) (0 : Nat) (1048576 : Nat) (by omega) (by omega))
          rw [hrd] at HRD
          have HJ8 := Lib.hid (HJ7.out.ch ch8)
          have HK8 := Lib.hid (HK7.out.ch ch8 (by omega))
          have HJ9 := Lib.hid hj8
          have G8 := Lib.hid h8.gr
          clear h8 ch8 hj8 HOPN HJ7 HK7 hrd
          go_wp2_with fail
          refine HRD.out.mono ?_
          rintro e w9 ⟨⟨v9, rfl, b9⟩, g9⟩
          obtain ⟨A9, c9, rfl⟩ := b9.rd.form
          have HB9 := Lib.hid b9.rd
          have G9 := Lib.hid (gr_none (gr_none GB.out G8.out) g9)
          have HW9 := Lib.hid (HK8.out.ext g9).own.rd
          have HR1 := Lib.hid (recs_any (HJ9.out.ch (Ch.ext g9)) (by rw [HLEN2.out]; omega))
          have HJX := Lib.hid (HJ8.out.ch (Ch.ext g9))
          rw [hsl]
          clear b9 g9 HRD HJ8 HJ9 HK8
          have hbe : ((((64 * (m + 1) : Nat)) : Int) == 64 * ((m + 1 : Nat) : Int)) = true := by rw [beq_iff_eq]; omega
          have hbe2 : (((64 * (m + 1) : Nat)) : Int) = 64 * ((m + 1 : Nat) : Int) := by omega
          go_wp2_with fail
          refine HR1.out.mono ?_
          rintro e w10 ⟨⟨v10, rfl, b10⟩, g10⟩
          have HSA := Lib.hid (same_any _ _ (L1 ++ [r]) (L1 ++ [r]) w10 b10.rd (show RdR w10 (.slice A2 (m + 1) c2) (L1 ++ [r]) from by unfold RdR; rw [HLEN2.out]; exact Rd.ext HW9.out g10) (by rw [HLEN2.out]; omega) (by rw [HLEN2.out]; omega))
          have G10 := Lib.hid g10
          clear b10 g10 HR1
          go_wp2_with fail
          refine HSA.out.mono ?_
          rintro e w11 ⟨⟨b11, rfl, hb11⟩, g11⟩
          obtain rfl := hb11.2 (by first | rfl | trivial)
          have G11 := Lib.hid (gr_none G10.out g11)
          have HR2 := Lib.hid (recs_any (HJX.out.ch (Ch.ext G11.out)) (by rw [HLEN2.out]; omega))
          clear hb11 g11 HSA
          go_wp2_with fail
          refine HR2.out.mono ?_
          rintro e w12 ⟨⟨v12, rfl, b12⟩, g12⟩
          have G12 := Lib.hid (gr_none G11.out g12)
          have HSB := Lib.hid (same_any _ _ (L1 ++ [r]) (L1 ++ [r]) w12 b12.rd (show RdR w12 (.slice A2 (m + 1) c2) (L1 ++ [r]) from by unfold RdR; rw [HLEN2.out]; exact Rd.ext HW9.out G12.out) (by rw [HLEN2.out]; omega) (by rw [HLEN2.out]; omega))
          clear b12 g12 HR2
          go_wp2_with fail
          refine HSB.out.mono ?_
          rintro e w13 ⟨⟨b13, rfl, hb13⟩, g13⟩
          obtain rfl := hb13.2 (by first | rfl | trivial)
          have G13 := Lib.hid (gr_none G12.out g13)
          have HEQ := Lib.hid (eqBytes_any (.slice A9 (64 * (m + 1)) c9) (.slice none 0 0) (secs 0 (L1 ++ [r])) [] w13 (by have := HB9.out.ext G13.out; rw [hsl] at this; exact this) (Rd.nil _ _))
          have hne : (secs 0 (L1 ++ [r]) == []) = false := by
            rw [beq_eq_false_iff_ne]
            intro e
            rw [e] at hsl
            simp at hsl
          rw [hne] at HEQ
          clear hb13 g13 HSB hne
          go_wp2_with fail
          refine HEQ.out.mono ?_
          rintro e w14 ⟨rfl, rfl⟩
          go_wp2_with (go_at_call 29; refine (works_any _).mono ?_; rintro e w15 ⟨rfl, g15⟩)
          go_ret
          exact ⟨rfl, gr_none (gr_none G9.out G13.out) g15⟩
end Go.Proofs.Ytfbbbbekialpnaa
