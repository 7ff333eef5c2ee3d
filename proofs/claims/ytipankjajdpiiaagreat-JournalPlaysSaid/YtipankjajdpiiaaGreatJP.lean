/-
  The reference's sectors, and its Read.
-/
import Derived.Test.YtipankjajdpiiaaGreatJ2
namespace Go.Proofs.YtipankjajdpiiaaGreat
open Go.RowKit
set_option maxRecDepth 100000
set_option maxHeartbeats 400000

theorem rfield_any (at_ : Nat) (v : Value) (l : List UInt8) (w : World) (hn : at_ + 4 ≤ l.length) (hl : l.length ≤ 1000000000) (h : RdB w v l) :
    Calls Tryz.prog 113 #[v, .int .i64 at_] w fun e w' => e = .returned (.int .u32 (rdN ((l.drop at_).take 4))) ∧ w = w' := by
  have hg := fun (O : Int) (hO : O = (at_ : Int)) => rget_any O 4 at_ 4 hO rfl v l w (by omega) hn hl h
  have hlt := rd4_lt l at_
  generalize rdN ((l.drop at_).take 4) = x at *
  have HG := Lib.hid hg
  clear hg h
  go_enter Tryz.func113, Tryz.ntmps113
  go_wp2_with (go_at_call 124; refine (HG.out _ rfl).mono ?_; rintro e w1 ⟨rfl, rfl⟩)
  go_ret
  exact ⟨by rw [show ((x : Int) = (x : Int) % 4294967296) from by omega]; rfl, rfl⟩
theorem rdB_nil (w : World) : RdB w (.slice none 0 0) [] := Rd.nil w 1
set_option maxHeartbeats 1000000 in
theorem rlaid_any (n : Nat) (hn : n < 4294967296) (N : Int) (hN : N = (n : Int)) (r : Rc) (w : World) :
    Calls Tryz.prog 84 #[.int .i64 N, .agg r.cells] w fun e w' => (∃ v', e = .returned v' ∧ OwnB w' w.heap.size v' (secB n r)) ∧ w.grownBy w' none := by
  subst hN
  have hk := r.k.toNat_lt
  have ha := r.a.toNat_lt
  have hb := r.b.toNat_lt
  have hblk := Blk.new w 38 r.cells
  unfold Rc.cells at hblk ⊢
  have HBLK := Lib.hid hblk
  have HP := Lib.hid (fun (x : Nat) (hx : x < 18446744073709551616) (v : Value) (l : List UInt8) (wx : World) (hl : l.length ≤ 1000000000) (h : RdB wx v l) => rput_i 4 x 4 x rfl rfl v l wx hx (by omega) hl h)
  clear hblk
  go_enter Tryz.func84, Tryz.ntmps84
  go_wp2_with fail
  refine (HP.out n (by omega) _ [] _ (by simp) (rdB_nil _)).mono ?_
  rintro e w1 ⟨v1, rfl, o1, g1⟩
  have b1 := (HBLK.out.ext g1).cell
  have c10 : w1.cell? ⟨w.heap.size, 0, none⟩ = some (.int .u32 r.k.toNat) := b1 0
  have O1 := Lib.hid o1
  have G1 := Lib.hid (gr_none (gr_alloc w (.cells #[.int .u32 r.k.toNat, .int .u32 r.a.toNat, .int .u32 r.b.toNat] 38) none) g1)
  have B1 := Lib.hid (HBLK.out.ext g1)
  clear b1 o1 g1
  go_wp2_with fail
  refine (HP.out r.k.toNat (by omega) _ _ _ (by simp [length_le]) O1.out.rd).mono ?_
  rintro e w2 ⟨v2, rfl, o2, g2⟩
  have c20 : w2.cell? ⟨w.heap.size, 1, none⟩ = some (.int .u32 r.a.toNat) := (B1.out.ext g2).cell 1
  have O2 := Lib.hid o2
  have G2 := Lib.hid (gr_none G1.out g2)
  have B2 := Lib.hid (B1.out.ext g2)
  clear o2 g2 c10
  go_wp2_with fail
  refine (HP.out r.a.toNat (by omega) _ _ _ (by simp [length_le]) O2.out.rd).mono ?_
  rintro e w3 ⟨v3, rfl, o3, g3⟩
  have c30 : w3.cell? ⟨w.heap.size, 2, none⟩ = some (.int .u32 r.b.toNat) := (B2.out.ext g3).cell 2
  have O3 := Lib.hid o3
  have G3 := Lib.hid (gr_none G2.out g3)
  clear o3 g3 c20
  go_wp2_with fail
  refine (HP.out r.b.toNat (by omega) _ _ _ (by simp [length_le]) O3.out.rd).mono ?_
  rintro e w4 ⟨v4, rfl, o4, g4⟩
  have G4 := Lib.hid (gr_none G3.out g4)
  obtain ⟨P, hP⟩ : ∃ P, P = le n 4 ++ le r.k.toNat 4 ++ le r.a.toNat 4 ++ le r.b.toNat 4 := ⟨_, rfl⟩
  have hPl : P.length = 16 := by rw [hP]; simp [length_le]
  have O4 : Hid (OwnB w4 w.heap.size v4 P) := by
    show OwnB _ _ _ _
    rw [hP]
    have := OwnB.mono o4 G3.out.size
    simpa only [List.nil_append] using this
  have HPP := Lib.hid hP
  have HPL := Lib.hid hPl
  clear o4 g4 c30 hP hPl hk ha hb
  go_wp2_with fail
  go_loopw [5] (fun u wr => ∃ j : Nat, j ≤ 44 ∧ OwnB wr w.heap.size u (P ++ List.replicate j 0) ∧ w.grownBy wr none) (fun u _ => 60 - lenV0 u)
  case atStart => exact ⟨0, by omega, by simpa using O4.out, G4.out⟩
  case round =>
    obtain ⟨j, hj, hown, hg⟩ := hrel
    obtain ⟨A, c, e⟩ := hown.rd.form
    subst e
    have hlen : (P ++ List.replicate j (0 : UInt8)).length = 16 + j := by rw [List.length_append, HPL.out]; simp
    rw [hlen] at hown
    have HO := Lib.hid hown
    have HG := Lib.hid hg
    have HLEN := Lib.hid hlen
    clear hown hg
    rw [hlen]
    clear hlen
    by_cases hlt : j < 44
    · have hlb : (P ++ List.replicate j (0 : UInt8)).length ≤ 70000000000000 := by rw [HLEN.out]; omega
      have hzz := HG.out.size
      go_wp2_with (at_builtin; refine wp_app1B 0 _ (by rfl) rfl (.tmp 27) (.tmp 28) rfl rfl HO.out rfl hlb hzz ?_; intro v1 w1 h1 g1 a1)
      have H1 := Lib.hid h1
      have GG1 := Lib.hid (gr_trans HG.out g1 (.inr fun k e => Own.lt HO.out k e))
      obtain ⟨A1, c1, rfl⟩ := h1.rd.form
      clear h1 g1 a1
      go_roundw
      case rel => exact ⟨j + 1, by omega, by rw [show P ++ List.replicate (j + 1) (0 : UInt8) = P ++ List.replicate j 0 ++ [0] from by rw [List.append_assoc, ← List.replicate_succ']]; exact H1.out, GG1.out⟩
      case measure => (simp [lenV0, HPL.out]; omega)
    · obtain rfl : j = 44 := by omega
      have hse : Hid (P ++ List.replicate 44 (0 : UInt8) = secH n r) := by show _ = _; rw [HPP.out]; rfl
      have hcl := crcE_lt 0 (secH n r)
      go_wp2_with fail
      refine (rsum_any _ (secH n r) _ (by rw [← hse.out]; exact HO.out.rd) (by rw [secH_len]; omega)).mono ?_
      rintro e w5 ⟨rfl, rfl⟩
      have hcl' : crcS (secH n r) < 18446744073709551616 := by unfold crcS; omega
      have hsB : Hid (secB n r = secH n r ++ le (crcS (secH n r)) 4) := rfl
      generalize crcS (secH n r) = x at *
      go_wp2_with fail
      refine (HP.out x hcl' _ (secH n r) _ (by rw [secH_len]; omega) (by rw [← hse.out]; exact HO.out.rd)).mono ?_
      rintro e w6 ⟨v6, rfl, o6, g6⟩
      have O6 := Lib.hid (Own.mono o6 HG.out.size)
      have G6 := Lib.hid (gr_none HG.out g6)
      clear o6 g6
      go_wp2
      go_ret
      exact ⟨⟨v6, rfl, by rw [hsB.out]; exact O6.out⟩, G6.out⟩
set_option maxHeartbeats 2000000 in
theorem jrread_any (v : Value) (b : List UInt8) (w : World) (h : RdB w v b) (hb : b.length ≤ 1000000000) :
    Calls Tryz.prog 81 #[v] w fun e w' => (∃ v', e = .returned v' ∧ OwnR w' w.heap.size v' (readJ b)) ∧ w.grownBy w' none := by
  obtain ⟨A, c, rfl⟩ := h.form
  have H := Lib.hid h
  clear h
  go_enter Tryz.func81, Tryz.ntmps81
  go_wp2
  go_loopw [3, 4, 5, 6] (fun u i _ _ wr => ∃ (l : List Rc) (f : Nat), i = .int .i64 l.length ∧ 64 * l.length ≤ b.length ∧ (b.drop (64 * l.length)).length < f * 64 + 64 ∧ l ++ readF (f + 1) l.length (b.drop (64 * l.length)) = readJ b ∧ OwnR wr w.heap.size u l ∧ l.length ≤ 65536 ∧ w.grownBy wr none) (fun _ i _ _ _ => 65536 - (intOf i).toNat)
  case atStart => exact ⟨[], b.length, rfl, by simp, by simp; omega, by simp; rfl, OwnR.nil _ _, by simp, gr_refl _ _⟩
  case round =>
    obtain ⟨l, f, rfl, hbl, hfl, hrd, hown, hll, hg⟩ := hrel
    rw [List.length_drop] at hfl
    obtain ⟨k, hkk⟩ : ∃ k, k = l.length := ⟨_, rfl⟩
    by_cases h64 : 64 * ((l.length : Int) + 1) ≤ (b.length : Int)
    · by_cases hmost : (l.length : Int) < 65536
      · obtain ⟨Al, cl, rfl⟩ := hown.rd.form
        have hcap : b.length ≤ c := RdB.cap H.out
        have hmx : c ≤ maxLen := by obtain ⟨_, _, _, _, _, e, _, hm, _⟩ := H.out; cases e; exact hm
        unfold maxLen at hmx
        have hsc : RdB w (.slice (cutA A c (64 * l.length) 1) 64 (c - 64 * l.length)) ((b.drop (64 * l.length)).take 64) := by
          have := H.out.cut (i := 64 * l.length) (j := 64 * (l.length + 1)) (by omega) (by omega)
          rw [show 64 * (l.length + 1) - 64 * l.length = 64 from by omega, show 64 * (l.length + 1) = 64 * l.length + 64 from by omega, ← List.take_drop] at this
          exact this
        have hsl : ((b.drop (64 * l.length)).take 64).length = 64 := by rw [List.length_take, List.length_drop]; omega
        have hdd : (b.drop (64 * l.length)).drop 64 = b.drop (64 * (l.length + 1)) := by rw [List.drop_drop]; congr 1
        have hdl : (b.drop (64 * l.length)).length = b.length - 64 * l.length := List.length_drop
        obtain ⟨b', hb'⟩ : ∃ b', b' = b.drop (64 * l.length) := ⟨_, rfl⟩
        rw [← hb'] at hsc hsl hdd hrd hdl
        have HS0 := Lib.hid hsc
        have HRD := Lib.hid hrd
        have HO := Lib.hid hown
        have HG := Lib.hid hg
        have HSL := Lib.hid hsl
        have HDD := Lib.hid hdd
        have HDL := Lib.hid hdl
        have k1 := recOf_k (b'.take 64)
        have k2 := recOf_a (b'.take 64)
        have k3 := recOf_b (b'.take 64)
        have HK1 := Lib.hid k1.symm
        have HK2 := Lib.hid k2.symm
        have HK3 := Lib.hid k3.symm
        clear hsc hrd hown hg hsl k1 k2 k3 hdd hdl hb' hkk
        have t1 : (64 * (l.length : Int)).toNat = 64 * l.length := by omega
        have t2 : (64 * ((l.length : Int) + 1)).toNat = 64 * (l.length + 1) := by omega
        have t3 : 64 * (l.length + 1) - 64 * l.length = 64 := by omega
        go_wp2_with fail
        refine (rfield_any 4 _ (b'.take 64) _ (by rw [HSL.out]; omega) (by rw [HSL.out]; omega) (HS0.out.ext HG.out)).mono ?_
        rintro e w1 ⟨rfl, rfl⟩
        rw [HK1.out]
        go_wp2_with fail
        refine (rfield_any 8 _ (b'.take 64) _ (by rw [HSL.out]; omega) (by rw [HSL.out]; omega) (HS0.out.ext HG.out)).mono ?_
        rintro e w2 ⟨rfl, rfl⟩
        rw [HK2.out]
        go_wp2_with fail
        refine (rfield_any 12 _ (b'.take 64) _ (by rw [HSL.out]; omega) (by rw [HSL.out]; omega) (HS0.out.ext HG.out)).mono ?_
        rintro e w3 ⟨rfl, rfl⟩
        rw [HK3.out]
        obtain ⟨r, hr⟩ : ∃ r, r = recOf (b'.take 64) := ⟨_, rfl⟩
        rw [← hr]
        have HR := Lib.hid hr
        clear hr
        have hkl := r.k.toNat_lt
        by_cases hk0 : (r.k.toNat : Int) = 0
        · have hend : Hid (l = readJ b) := by
            show _ = _
            rw [← HRD.out, readF_bad (.inl ?_), List.append_nil]
            rw [← HR.out]
            exact UInt32.toNat_inj.1 (by simpa using hk0)
          go_wp2
          go_ret
          exact ⟨⟨_, rfl, by rw [← hend.out]; exact OwnR.ext HO.out (gr_alloc _ _ none)⟩, gr_none HG.out (gr_alloc _ _ none)⟩
        · have hkb : ((r.k.toNat : Int) == 0) = false := by rw [beq_eq_false_iff_ne]; exact hk0
          have hr0 : Hid (r.k ≠ 0) := fun e => hk0 (by rw [e]; rfl)
          clear hk0
          have hal := r.a.toNat_lt
          have hbl2 := r.b.toNat_lt
          have hlaid := fun (N : Int) (hN : N = ((l.length + 1 : Nat) : Int)) (wx : World) => rlaid_any (l.length + 1) (by omega) N hN r wx
          unfold Rc.cells at hlaid
          have HLAID := Lib.hid hlaid
          clear hlaid
          go_wp2_with fail
          refine (HLAID.out _ (by omega) _).mono ?_
          rintro e w4 ⟨⟨v4, rfl, o4⟩, g4⟩
          have G4 := Lib.hid (gr_none (gr_none HG.out (gr_alloc _ _ none)) g4)
          have HO4 := Lib.hid ((OwnR.ext HO.out (gr_alloc _ (.cells #[.int .u32 r.k.toNat, .int .u32 r.a.toNat, .int .u32 r.b.toNat] 38) none)).ext g4)
          have HB4 := Lib.hid ((Blk.new _ 38 #[.int .u32 r.k.toNat, .int .u32 r.a.toNat, .int .u32 r.b.toNat]).ext g4)
          have HV4 := Lib.hid o4
          clear o4 g4
          go_wp2_with fail
          refine (eqBytes_any _ _ (b'.take 64) (secB (l.length + 1) r) _ (HS0.out.ext G4.out) HV4.out.rd).mono ?_
          rintro e w5 ⟨rfl, rfl⟩
          have hb5 := HB4.out.cell
          have c0 := hb5 0
          have c1 := hb5 1
          have c2 := hb5 2
          simp only [List.getElem?_toArray, List.getElem?_cons_zero, List.getElem?_cons_succ] at c0 c1 c2
          clear hb5
          by_cases heq : b'.take 64 = secB (l.length + 1) r
          · have hbt : (b'.take 64 == secB (l.length + 1) r) = true := by rw [heq]; exact beq_self_eq_true _
            rw [hbt]
            clear hbt
            have hmore : Hid (l ++ [r] ++ readF f (l ++ [r]).length (b'.drop 64) = readJ b) := by
              show _ = _
              rw [← HRD.out, readF_more (by rw [HDL.out]; omega) (by omega) ?_, ← HR.out]
              · simp
              · rw [← HR.out]
                intro h
                rcases h with h | h
                · exact hr0.out h
                · exact h heq
            have hbz := G4.out.size
            have hll2 : l.length ≤ 1000000000 := by omega
            clear heq
            go_wp2_with (at_builtin; refine wp_app1R r _ rfl rfl (.tmp 45) (.tmp 47) rfl rfl HO4.out _ rfl rfl hll2 hbz ?_; intro v6 w6 h6 g6 a6)
            have HO6 := Lib.hid h6
            have G6 := Lib.hid (gr_trans G4.out g6 (.inr fun k e => Own.lt HO4.out k e))
            clear h6 g6 a6 c0 c1 c2 t1 t2 t3
            go_wp2
            go_roundw
            case rel =>
              have hll3 : (l ++ [r]).length = l.length + 1 := by simp
              have hm := hmore.out
              rw [HDD.out] at hm
              refine ⟨l ++ [r], f - 1, by rw [hll3]; go_num, by rw [hll3]; omega, by rw [hll3, List.length_drop]; omega, ?_, HO6.out, by rw [hll3]; omega, G6.out⟩
              rw [hll3] at hm ⊢
              rcases Nat.eq_zero_or_pos f with h0 | h0
              · subst h0
                rw [readF_stop (.inl (by rw [List.length_drop]; omega))] at hm ⊢
                exact hm
              · rw [show f - 1 + 1 = f from by omega]; exact hm
            case measure => simp [intOf]; omega
          · have hbt : (b'.take 64 == secB (l.length + 1) r) = false := by rw [beq_eq_false_iff_ne]; exact heq
            rw [hbt]
            clear hbt
            have hend : Hid (l = readJ b) := by
              show _ = _
              rw [← HRD.out, readF_bad (.inr ?_), List.append_nil]
              rw [← HR.out]
              exact heq
            clear heq
            go_wp2
            go_ret
            exact ⟨⟨_, rfl, by rw [← hend.out]; exact HO4.out⟩, G4.out⟩
      · have hend : Hid (l = readJ b) := by show _ = _; rw [← hrd, readF_stop (.inr (by omega)), List.append_nil]
        have HG := Lib.hid hg
        obtain ⟨Al, cl, rfl⟩ := hown.rd.form
        have HO := Lib.hid hown
        clear hrd hown hg hkk
        go_wp2
        go_ret
        exact ⟨⟨_, rfl, by rw [← hend.out]; exact HO.out⟩, HG.out⟩
    · have hend : Hid (l = readJ b) := by show _ = _; rw [← hrd, readF_stop (.inl (by rw [List.length_drop]; omega)), List.append_nil]
      have HG := Lib.hid hg
      obtain ⟨Al, cl, rfl⟩ := hown.rd.form
      have HO := Lib.hid hown
      clear hrd hown hg hkk
      go_wp2
      go_ret
      exact ⟨⟨_, rfl, by rw [← hend.out]; exact HO.out⟩, HG.out⟩
/-- are two records the same? -/
def rcEq (x y : Rc) : Bool := (x.k.toNat : Int) == y.k.toNat && ((x.a.toNat : Int) == y.a.toNat && (x.b.toNat : Int) == y.b.toNat)
theorem rcEq_iff (x y : Rc) : rcEq x y = true ↔ x = y := by
  obtain ⟨a, b, c⟩ := x
  obtain ⟨a', b', c'⟩ := y
  simp only [rcEq, Bool.and_eq_true, beq_iff_eq, Rc.mk.injEq, Int.ofNat_inj, UInt32.toNat_inj]
theorem run_neqR (x y : Rc) (w : World) : (binOp .neq 38 (.agg x.cells) (.agg y.cells)).run Tryz.prog w = .ok (.bool (!rcEq x y)) w := by
  unfold Rc.cells
  rw [run_neq_struct]
  simp [go_sem]
  by_cases h1 : (x.k.toNat : Int) = y.k.toNat <;> by_cases h2 : (x.a.toNat : Int) = y.a.toNat <;> by_cases h3 : (x.b.toNat : Int) = y.b.toNat <;> simp [rcEq, h1, h2, h3]
theorem at3 {w wx : World} {g off : Nat} {l : List Rc} (hc : ∀ k (hk : k < l.length), ∀ j, j < 3 → w.cell? ⟨g, off + k * 3 + j, none⟩ = (l[k].cells)[j]?) (hg : w.grownBy wx none) {k : Nat} (hk : k < l.length) {a b c : UInt32} (e : l[k] = ⟨a, b, c⟩) :
    wx.cell? ⟨g, off + k * 3, none⟩ = some (.int .u32 a.toNat) ∧ wx.cell? ⟨g, off + k * 3 + 1, none⟩ = some (.int .u32 b.toNat) ∧ wx.cell? ⟨g, off + k * 3 + 2, none⟩ = some (.int .u32 c.toNat) := by
  have h0 := hc k hk 0 (by omega)
  have h1 := hc k hk 1 (by omega)
  have h2 := hc k hk 2 (by omega)
  rw [e] at h0 h1 h2
  exact ⟨hg.cell h0 (by simp), hg.cell h1 (by simp), hg.cell h2 (by simp)⟩
set_option maxHeartbeats 1000000 in
/-- do two lists hold the same records? -/
theorem same_any (v v' : Value) (l l' : List Rc) (w : World) (h : RdR w v l) (h' : RdR w v' l') (hn : l.length ≤ 1000000000) (hn' : l'.length ≤ 1000000000) :
    Calls Tryz.prog 11 #[v, v'] w fun e w' => (∃ b, e = .returned (.bool b) ∧ (b = true ↔ l = l')) ∧ w.grownBy w' none := by
  obtain ⟨A, c, rfl⟩ := h.form
  obtain ⟨A', c', rfl⟩ := h'.form
  obtain ⟨g, off, hA, _, _, hcells⟩ := h.at_
  obtain ⟨g', off', hA', _, _, hcells'⟩ := h'.at_
  have HA := Lib.hid hA
  have HC := Lib.hid hcells
  have HA' := Lib.hid hA'
  have HC' := Lib.hid hcells'
  clear hA hcells hA' hcells' h h'
  by_cases hl : l.length = l'.length
  · have hb : ((l.length : Int) != (l'.length : Int)) = false := by rw [bne_eq_false_iff_eq]; omega
    have hl1 : l.length ≤ l'.length := by omega
    have hl2 : l'.length ≤ l.length := by omega
    clear hl
    go_enter Tryz.func11, Tryz.ntmps11
    go_wp2
    go_loopw [5] (fun i wr => ∃ k : Nat, k ≤ l.length ∧ i = .int .i64 k ∧ l.take k = l'.take k ∧ w.grownBy wr none) (fun i _ => l.length - (intOf i).toNat)
    case atStart => exact ⟨0, by omega, rfl, by simp, gr_refl _ _⟩
    case round =>
      obtain ⟨k, hk, rfl, hall, hg⟩ := hrel
      have Hall := Lib.hid hall
      clear hall
      by_cases hlt : k < l.length
      · have hlt' : k < l'.length := by omega
        have := HA.out (by omega)
        subst this
        have := HA'.out (by omega)
        subst this
        rcases hx : l[k] with ⟨xa, xb, xc⟩
        rcases hy : l'[k] with ⟨ya, yb, yc⟩
        obtain ⟨c0, c1, c2⟩ := at3 HC.out hg hlt hx
        obtain ⟨d0, d1, d2⟩ := at3 HC'.out hg hlt' hy
        have Hx := Lib.hid hx
        have Hy := Lib.hid hy
        clear hx hy
        have hne := run_neqR ⟨xa, xb, xc⟩ ⟨ya, yb, yc⟩
        have Hiff := Lib.hid (rcEq_iff ⟨xa, xb, xc⟩ ⟨ya, yb, yc⟩)
        simp only [Rc.cells] at hne
        generalize rcEq ⟨xa, xb, xc⟩ ⟨ya, yb, yc⟩ = B at *
        cases B
        · have Hd : Hid (¬ l = l') := fun e => by
            have hxy := Hiff.out
            have e1 := Hx.out
            have e2 := Hy.out
            subst e
            rw [e1] at e2
            exact absurd (hxy.2 e2) (by simp)
          go_wp2_with fail
          go_quiet (fail)
          go_wp2
          go_ret
          exact ⟨⟨_, rfl, ⟨(fun h => by cases h), fun h => absurd h Hd.out⟩⟩, gr_none hg (gr_drewN _ _ _)⟩
        · have Hxy := Lib.hid (Hiff.out.1 rfl)
          clear Hiff
          go_wp2_with fail
          go_quiet (fail)
          go_wp2
          go_roundw
          case rel => exact ⟨k + 1, by omega, by go_num, by
            rw [List.take_succ_eq_append_getElem hlt, List.take_succ_eq_append_getElem hlt', Hall.out, Hx.out, Hy.out, Hxy.out], gr_none hg (gr_drewN _ _ _)⟩
          case measure => simp [intOf]; omega
      · obtain rfl : k = l.length := by omega
        have He : Hid (l = l') := by
          have := Hall.out
          rw [List.take_length, List.take_of_length_le hl2] at this
          exact this
        go_wp2
        go_ret
        exact ⟨⟨_, rfl, ⟨fun _ => He.out, fun _ => rfl⟩⟩, hg⟩
  · have hb : ((l.length : Int) != (l'.length : Int)) = true := by rw [bne_iff_ne]; omega
    have Hd : Hid (¬ l = l') := fun e => hl (by rw [e])
    clear hl
    go_enter Tryz.func11, Tryz.ntmps11
    go_wp2
    go_ret
    exact ⟨⟨_, rfl, ⟨(fun h => by cases h), fun h => absurd h Hd.out⟩⟩, gr_refl _ _⟩
theorem own_emptyR (w : World) (B : Nat) (hB : B ≤ w.heap.size) : OwnR (w.alloc (.cells #[] 38)) B (.slice (some ⟨w.heap.size, 0, none⟩) 0 0) [] :=
  own_lit w B 3 0 0 #[] _ (0, 0) (.inl (by simp)) rfl (Nat.le_refl _) (Nat.zero_le _) hB
theorem cloneR (v : Value) (l : List Rc) (w : World) (h : RdR w v l) (hn : l.length ≤ 1000000000) :
    Calls Tryz.prog 39 #[v] w fun e w' => (∃ v', e = .returned v' ∧ OwnR w' w.heap.size v' l) ∧ w.grownBy w' none := by
  have h0 := h
  obtain ⟨hl, A, c, g, off, rfl, hnc, hc, hA0, hA, hx⟩ := h
  clear hl hx
  have H0 := Lib.hid h0
  clear h0
  cases A with
  | none =>
    have hc0 := hA0 rfl
    have hnil := List.eq_nil_of_length_eq_zero (show l.length = 0 by omega)
    subst hc0 hnil
    have he : ∀ w, (binOp .eql 46 (.slice none 0 0) (.slice none 0 0)).run Tryz.prog w = .ok (.bool true) w := fun w => by kernel_rfl
    go_enter Tryz.func39, Tryz.ntmps39
    go_wp2
    go_ret
    exact ⟨⟨_, rfl, OwnR.nil _ _⟩, gr_refl _ _⟩
  | some a =>
    have he : ∀ (n : Nat) w, (binOp .eql 46 (.slice (some a) n c) (.slice none 0 0)).run Tryz.prog w = .ok (.bool false) w := fun n w => by kernel_rfl
    go_enter Tryz.func39, Tryz.ntmps39
    go_wp2_with (at_builtin; refine wp_appR (m := l) (l := []) rfl (.tmp 5) (.tmp 6) rfl rfl (own_emptyR _ _ (Nat.le_refl _)) rfl (Rd.alloc H0.out _) (by simp; omega) (by simp) ?_)
    intro v' w' h1 h2 h3
    go_wp2
    go_ret
    exact ⟨⟨_, rfl, by simpa using h1⟩, gr_trans (gr_alloc _ _ _) h2 (.inr (fun g e => by simp [Value.ownBlock] at e; omega))⟩
end Go.Proofs.YtipankjajdpiiaaGreat

/- Records as bytes: plain laws. -/
namespace Go.Proofs.YtipankjajdpiiaaGreat
set_option maxRecDepth 100000

theorem rd_le4 (x : UInt32) : UInt32.ofNat (rdN (le x.toNat 4)) = x := by
  rw [rd_le]
  have := x.toNat_lt
  rw [Nat.mod_eq_of_lt (by omega)]
  simp
theorem recOf_secB (n : Nat) (r : Rc) : recOf (secB n r) = r := by
  obtain ⟨k, a, b⟩ := r
  have e : secB n ⟨k, a, b⟩ = le n 4 ++ (le k.toNat 4 ++ (le a.toNat 4 ++ (le b.toNat 4 ++ (List.replicate 44 0 ++ le (crcS (secH n ⟨k, a, b⟩)) 4)))) := by simp [secB, secH]
  unfold recOf
  rw [e]
  generalize List.replicate 44 0 ++ le (crcS (secH n ⟨k, a, b⟩)) 4 = T
  have h4 : ∀ x : Nat, (le x 4).length = 4 := fun x => length_le x 4
  have d4 : ∀ (x : Nat) (Y : List UInt8), (le x 4 ++ Y).drop 4 = Y := fun x Y => List.drop_left' (h4 x)
  have t4 : ∀ (x : Nat) (Y : List UInt8), (le x 4 ++ Y).take 4 = le x 4 := fun x Y => List.take_left' (h4 x)
  have e8 : ∀ L : List UInt8, L.drop 8 = (L.drop 4).drop 4 := fun L => by rw [List.drop_drop]
  have e12 : ∀ L : List UInt8, L.drop 12 = ((L.drop 4).drop 4).drop 4 := fun L => by rw [List.drop_drop, List.drop_drop]
  rw [e12, e8, d4, d4, d4, t4, t4, t4, rd_le4, rd_le4, rd_le4]
/-- the sectors of records. -/
def secs : Nat → List Rc → List UInt8
  | _, [] => []
  | n, r :: l => secB (n + 1) r ++ secs (n + 1) l
theorem secs_len (n : Nat) (l : List Rc) : (secs n l).length = 64 * l.length := by
  induction l generalizing n with
  | nil => rfl
  | cons r l ih => rw [secs, List.length_append, secB_len, ih, List.length_cons]; omega
theorem secs_snoc (n : Nat) (l : List Rc) (r : Rc) : secs n (l ++ [r]) = secs n l ++ secB (n + l.length + 1) r := by
  induction l generalizing n with
  | nil => simp [secs]
  | cons a l ih =>
    rw [List.cons_append, secs, ih, secs, List.append_assoc, List.length_cons]
    congr 3
    omega
theorem readF_fuel {f f' n : Nat} {b : List UInt8} (h : b.length < 64 * f + 64) (h' : b.length < 64 * f' + 64) : readF (f + 1) n b = readF (f' + 1) n b := by
  induction f generalizing f' n b with
  | zero =>
    rw [readF_stop (.inl (by omega)), readF_stop (.inl (by omega))]
  | succ f ih =>
    cases f' with
    | zero => rw [readF_stop (.inl (by omega)), readF_stop (.inl (by omega))]
    | succ f' =>
      by_cases hc : 64 ≤ b.length ∧ n < 65536
      · by_cases hs : (recOf (b.take 64)).k = 0 ∨ b.take 64 ≠ secB (n + 1) (recOf (b.take 64))
        · rw [readF_bad hs, readF_bad hs]
        · rw [readF_more hc.1 hc.2 hs, readF_more hc.1 hc.2 hs, ih (f' := f') (by rw [List.length_drop]; omega) (by rw [List.length_drop]; omega)]
      · rw [readF_stop (by omega), readF_stop (by omega)]
/-- the bytes that records take are read as these. -/
theorem readF_secs (f n : Nat) (l : List Rc) (T : List UInt8) (hk : ∀ r ∈ l, r.k ≠ 0) (hn : n + l.length ≤ 65536) (hf : l.length ≤ f) (hT : readF (f + 1 - l.length) (n + l.length) T = []) :
    readF (f + 1) n (secs n l ++ T) = l := by
  induction l generalizing f n with
  | nil => simpa [secs] using hT
  | cons r l ih =>
    rw [List.length_cons] at hn hf hT
    have e1 : (secs n (r :: l) ++ T).take 64 = secB (n + 1) r := by rw [secs, List.append_assoc]; exact List.take_left' (secB_len _ _)
    have e2 : (secs n (r :: l) ++ T).drop 64 = secs (n + 1) l ++ T := by rw [secs, List.append_assoc]; exact List.drop_left' (secB_len _ _)
    rw [readF_more (by rw [List.length_append, secs_len, List.length_cons]; omega) (by omega) ?_, e1, e2, recOf_secB]
    · cases f with
      | zero => omega
      | succ f =>
        rw [ih f (n + 1) (fun x hx => hk x (by simp [hx])) (by omega) (by omega) (by rw [show f + 1 - l.length = f + 1 + 1 - (l.length + 1) from by omega, show n + 1 + l.length = n + (l.length + 1) from by omega]; exact hT)]
    · rw [e1, recOf_secB]
      intro h
      rcases h with h | h
      · exact hk r (by simp) h
      · exact h rfl
theorem readJ_secs {l : List Rc} (hk : ∀ r ∈ l, r.k ≠ 0) (hn : l.length ≤ 65536) : readJ (secs 0 l) = l := by
  have := readF_secs (secs 0 l).length 0 l [] hk (by omega) (by rw [secs_len]; omega) (readF_stop (.inl (by simp)))
  rwa [List.append_nil] at this
/-- what is read stands there as its sectors. -/
theorem readF_is (f n : Nat) (b : List UInt8) : b.take (64 * (readF f n b).length) = secs n (readF f n b) ∧ (∀ r ∈ readF f n b, r.k ≠ 0) ∧ (n ≤ 65536 → n + (readF f n b).length ≤ 65536) := by
  induction f generalizing n b with
  | zero => exact ⟨rfl, (fun r h => by cases h), fun h => by simpa [readF] using h⟩
  | succ f ih =>
    by_cases hc : 64 ≤ b.length ∧ n < 65536
    · by_cases hs : (recOf (b.take 64)).k = 0 ∨ b.take 64 ≠ secB (n + 1) (recOf (b.take 64))
      · rw [readF_bad hs]
        exact ⟨rfl, (fun r h => by cases h), fun h => by simpa using h⟩
      · rw [readF_more hc.1 hc.2 hs]
        obtain ⟨h1, h2, h3⟩ := ih (n + 1) (b.drop 64)
        have hs1 : (recOf (b.take 64)).k ≠ 0 := fun h => hs (.inl h)
        have hs2 : b.take 64 = secB (n + 1) (recOf (b.take 64)) := Classical.byContradiction fun h => hs (.inr h)
        refine ⟨?_, fun r hr => ?_, fun _ => ?_⟩
        · rw [List.length_cons, secs, ← h1, ← hs2, show 64 * ((readF f (n + 1) (b.drop 64)).length + 1) = 64 + 64 * (readF f (n + 1) (b.drop 64)).length from by omega, List.take_add]
        · rcases List.mem_cons.1 hr with rfl | hr
          · exact hs1
          · exact h2 r hr
        · have := h3 (by omega)
          rw [List.length_cons]; omega
    · have e : readF (f + 1) n b = [] := by rw [readF, if_neg hc]
      rw [e]
      exact ⟨rfl, (fun r h => by cases h), fun h => by simpa using h⟩
theorem readJ_is (b : List UInt8) : b.take (64 * (readJ b).length) = secs 0 (readJ b) ∧ (∀ r ∈ readJ b, r.k ≠ 0) ∧ (readJ b).length ≤ 65536 := by
  obtain ⟨h1, h2, h3⟩ := readF_is (b.length + 1) 0 b
  exact ⟨h1, h2, by have := h3 (by omega); simpa [readJ] using this⟩
theorem readJ_take (b : List UInt8) : readJ (b.take (64 * (readJ b).length)) = readJ b := by
  obtain ⟨h1, h2, h3⟩ := readJ_is b
  rw [h1]
  exact readJ_secs h2 h3
end Go.Proofs.YtipankjajdpiiaaGreat
