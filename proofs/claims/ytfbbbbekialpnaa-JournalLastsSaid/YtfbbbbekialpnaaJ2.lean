/-
  journal.read, and the reference's Read.
-/
import Derived.Test.YtfbbbbekialpnaaJ1
namespace Go.Proofs.Ytfbbbbekialpnaa
open Go.RowKit
set_option maxRecDepth 100000
set_option maxHeartbeats 400000

theorem sector_as (v : Value) (n : Nat) (r : Rc) (w : World) (m : List UInt32) (hm : m.length ≤ 15) (he : fieldsB m ++ List.replicate (60 - 4 * m.length) 0 = secH n r) (h : Rd w 1 v m.length (m.map fun x => .int .u32 x.toNat)) :
    Calls Try.prog 72 #[v] w fun e w' => (∃ v', e = .returned v' ∧ OwnB w' w.heap.size v' (secB n r)) ∧ w.grownBy w' none := by
  have := sector_any v m w h hm
  rw [he] at this
  exact this
/-- a sector, as journal makes it. -/
theorem sector_rec (v : Value) (n : Nat) (hn : n < 4294967296) (r : Rc) (w : World) (h : Rd w 1 v 4 [.int .u32 n, .int .u32 r.k.toNat, .int .u32 r.a.toNat, .int .u32 r.b.toNat]) :
    Calls Try.prog 72 #[v] w fun e w' => (∃ v', e = .returned v' ∧ OwnB w' w.heap.size v' (secB n r)) ∧ w.grownBy w' none := by
  have e : (UInt32.ofNat n).toNat = n := by simp; omega
  refine sector_as v n r w [UInt32.ofNat n, r.k, r.a, r.b] (by simp) ?_ ?_
  · unfold fieldsB secH
    simp only [List.flatMap_cons, List.flatMap_nil, List.append_nil, List.length_cons, List.length_nil, e, List.append_assoc]
  · simpa [e] using h
theorem readF_stop {f n : Nat} {b : List UInt8} (h : b.length < 64 ∨ 65536 ≤ n) : readF f n b = [] := by
  cases f with
  | zero => rfl
  | succ f => unfold readF; rw [if_neg (by omega)]
theorem readF_bad {f n : Nat} {b : List UInt8} (h : (recOf (b.take 64)).k = 0 ∨ b.take 64 ≠ secB (n + 1) (recOf (b.take 64))) : readF f n b = [] := by
  cases f with
  | zero => rfl
  | succ f => unfold readF; rw [if_pos h]; split <;> rfl
theorem readF_more {f n : Nat} {b : List UInt8} (h1 : 64 ≤ b.length) (h2 : n < 65536) (h : ¬ ((recOf (b.take 64)).k = 0 ∨ b.take 64 ≠ secB (n + 1) (recOf (b.take 64)))) : readF (f + 1) n b = recOf (b.take 64) :: readF f (n + 1) (b.drop 64) := by
  rw [readF, if_pos ⟨h1, h2⟩, if_neg h]
theorem recOf_k (s : List UInt8) : (recOf s).k.toNat = rdN ((s.drop 4).take 4) := by simp [recOf]; have := rd4_lt s 4; omega
theorem recOf_a (s : List UInt8) : (recOf s).a.toNat = rdN ((s.drop 8).take 4) := by simp [recOf]; have := rd4_lt s 8; omega
theorem recOf_b (s : List UInt8) : (recOf s).b.toNat = rdN ((s.drop 12).take 4) := by simp [recOf]; have := rd4_lt s 12; omega
def lenV0 : Value → Nat
  | .slice _ n _ => n
  | _ => 0
set_option maxHeartbeats 2000000 in
theorem jread_any (v : Value) (b : List UInt8) (w : World) (h : RdB w v b) (hb : b.length ≤ 1000000000) :
    Calls Try.prog 70 #[v] w fun e w' => (∃ v', e = .returned v' ∧ OwnR w' w.heap.size v' (readJ b)) ∧ w.grownBy w' none := by
  obtain ⟨A, c, rfl⟩ := h.form
  have H := Lib.hid h
  clear h
  go_enter Try.func70, Try.ntmps70
  go_wp2
  go_loopw [0, 3, 4, 5] (fun s u _ _ wr => ∃ (l : List Rc) (f : Nat) (b' : List UInt8) (A' : Option Addr) (c' : Nat), s = .slice A' b'.length c' ∧ RdB w (.slice A' b'.length c') b' ∧ b'.length ≤ b.length ∧ b'.length < f * 64 + 64 ∧ l ++ readF (f + 1) l.length b' = readJ b ∧ OwnR wr w.heap.size u l ∧ l.length ≤ 65536 ∧ w.grownBy wr none) (fun s _ _ _ _ => lenV0 s)
  case atStart => exact ⟨[], b.length, b, A, c, rfl, H.out, Nat.le_refl _, by omega, rfl, OwnR.nil _ _, by simp, gr_refl _ _⟩
  case round =>
    obtain ⟨l, f, b', A', c', rfl, hr, hbl, hfl, hrd, hown, hll, hg⟩ := hrel
    by_cases h64 : (64 : Int) ≤ (b'.length : Int)
    · by_cases hmost : (l.length : Int) < 65536
      · obtain ⟨Al, cl, rfl⟩ := hown.rd.form
        have hcap : b'.length ≤ c' := RdB.cap hr
        have hmx : c' ≤ maxLen := by obtain ⟨_, _, _, _, _, e, _, hm, _⟩ := hr; cases e; exact hm
        unfold maxLen at hmx
        have hs0 : RdB w (.slice A' 64 c') (b'.take 64) := by
          have := hr.take (k := 64) (by omega)
          exact this
        have hsl : (b'.take 64).length = 64 := by rw [List.length_take]; omega
        have hdr : RdB w (.slice (cutA A' c' 64 1) (b'.length - 64) (c' - 64)) (b'.drop 64) := hr.drop (by omega)
        have HS0 := Lib.hid hs0
        have HDR := Lib.hid hdr
        have HRD := Lib.hid hrd
        have HO := Lib.hid hown
        have HG := Lib.hid hg
        have HSL := Lib.hid hsl
        have k1 := recOf_k (b'.take 64)
        have k2 := recOf_a (b'.take 64)
        have k3 := recOf_b (b'.take 64)
        have HK1 := Lib.hid k1.symm
        have HK2 := Lib.hid k2.symm
        have HK3 := Lib.hid k3.symm
        clear hs0 hdr hrd hown hg hsl k1 k2 k3 hr
        go_wp2_with fail
        refine (field_any 4 _ (b'.take 64) _ (by rw [HSL.out]; omega) (by rw [HSL.out]; omega) (HS0.out.ext HG.out)).mono ?_
        rintro e w1 ⟨rfl, g1⟩
        have G1 := Lib.hid (gr_none HG.out g1)
        rw [HK1.out]
        go_wp2_with fail
        refine (field_any 8 _ (b'.take 64) _ (by rw [HSL.out]; omega) (by rw [HSL.out]; omega) (HS0.out.ext G1.out)).mono ?_
        rintro e w2 ⟨rfl, g2⟩
        have G2 := Lib.hid (gr_none G1.out g2)
        rw [HK2.out]
        go_wp2_with fail
        refine (field_any 12 _ (b'.take 64) _ (by rw [HSL.out]; omega) (by rw [HSL.out]; omega) (HS0.out.ext G2.out)).mono ?_
        rintro e w3 ⟨rfl, g3⟩
        have G3 := Lib.hid (gr_none G2.out g3)
        have HO3 := Lib.hid (((HO.out.ext g1).ext g2).ext g3)
        rw [HK3.out]
        clear g1 g2 g3
        obtain ⟨r, hr⟩ : ∃ r, r = recOf (b'.take 64) := ⟨_, rfl⟩
        rw [← hr]
        have HR := Lib.hid hr
        clear hr
        have hkl := r.k.toNat_lt
        by_cases hk0 : (r.k.toNat : Int) = 0
        · have hend : Hid (l = readJ b) := by
            show _ = _
            rw [← HRD.out, readF_bad (.inl ?_), List.append_nil]
            rw [← HR.out]
            exact UInt32.toNat_inj.1 (by simpa using hk0)
          have HE := Lib.hid hend.out
          go_wp2
          go_ret
          exact ⟨⟨_, rfl, by rw [← hend.out]; exact OwnR.ext HO3.out (gr_alloc _ _ none)⟩, gr_none G3.out (gr_alloc _ _ none)⟩
        · have hkb : ((r.k.toNat : Int) == 0) = false := by rw [beq_eq_false_iff_ne]; exact hk0
          have hr0 : Hid (r.k ≠ 0) := fun e => hk0 (by rw [e]; rfl)
          clear hk0
          have hal := r.a.toNat_lt
          have hbl2 := r.b.toNat_lt
          have hrdl := rd_lit (w3.alloc (.cells #[.int .u32 r.k.toNat, .int .u32 r.a.toNat, .int .u32 r.b.toNat] 58)) 1 4 4 #[.int .u32 ((l.length + 1 : Nat) : Int), .int .u32 r.k.toNat, .int .u32 r.a.toNat, .int .u32 r.b.toNat] 56 rfl (Nat.le_refl _) (by unfold maxLen; omega)
          have e1 : ((l.length + 1 : Nat) : Int) = (l.length : Int) + 1 := by omega
          rw [World.size_alloc, e1] at hrdl
          have hsec := sector_rec _ (l.length + 1) (by omega) r _ (by rw [e1]; exact hrdl)
          have HSEC := Lib.hid hsec
          have HBLK : Hid (Blk ((w3.alloc (.cells #[.int .u32 r.k.toNat, .int .u32 r.a.toNat, .int .u32 r.b.toNat] 58)).alloc (.cells #[.int .u32 ((l.length : Int) + 1), .int .u32 r.k.toNat, .int .u32 r.a.toNat, .int .u32 r.b.toNat] 56)) w3.heap.size 58 r.cells) := (Blk.new w3 _ _).ext (gr_alloc _ _ none)
          clear hrdl e1 hsec
          go_wp2_with fail
          refine HSEC.out.mono ?_
          rintro e w4 ⟨⟨v4, rfl, o4⟩, g4⟩
          have G4 := Lib.hid (gr_none (gr_none (gr_none G3.out (gr_alloc _ _ none)) (gr_alloc _ _ none)) g4)
          have HO4 := Lib.hid ((OwnR.ext (OwnR.ext HO3.out (gr_alloc _ _ none)) (gr_alloc _ _ none)).ext g4)
          have HB4 := Lib.hid (HBLK.out.ext g4)
          have HV4 := Lib.hid o4
          clear o4 g4
          go_wp2_with fail
          refine (equalB_any _ _ (b'.take 64) (secB (l.length + 1) r) _ (HS0.out.ext G4.out) HV4.out.rd (by rw [HSL.out]; omega) (by rw [secB_len]; omega)).mono ?_
          rintro e w5 ⟨⟨bb, rfl, hbb⟩, g5⟩
          have G5 := Lib.hid (gr_none G4.out g5)
          have HO5 := Lib.hid (HO4.out.ext g5)
          have hb5 := (HB4.out.ext g5).cell
          unfold Rc.cells at hb5
          have c0 : w5.cell? ⟨w3.heap.size, 0, none⟩ = some (.int .u32 r.k.toNat) := hb5 0
          have c1 : w5.cell? ⟨w3.heap.size, 1, none⟩ = some (.int .u32 r.a.toNat) := hb5 1
          have c2 : w5.cell? ⟨w3.heap.size, 2, none⟩ = some (.int .u32 r.b.toNat) := hb5 2
          have HBB := Lib.hid hbb
          clear hbb g5 hb5
          cases bb
          · have hend : Hid (l = readJ b) := by
              show _ = _
              rw [← HRD.out, readF_bad (.inr ?_), List.append_nil]
              rw [← HR.out]
              intro e
              have := HBB.out.2 e
              cases this
            go_wp2
            go_ret
            exact ⟨⟨_, rfl, by rw [← hend.out]; exact HO5.out⟩, G5.out⟩
          · have hmore : Hid (l ++ [r] ++ readF f (l ++ [r]).length (b'.drop 64) = readJ b) := by
              show _ = _
              rw [← HRD.out, readF_more (by omega) (by omega) ?_, ← HR.out]
              · simp
              · rw [← HR.out]
                intro h
                rcases h with h | h
                · exact hr0.out h
                · exact h (HBB.out.1 rfl)
            have hbz := G5.out.size
            have hll2 : l.length ≤ 1000000000 := by omega
            have hdl : (b'.drop 64).length = b'.length - 64 := List.length_drop
            have HDL := Lib.hid hdl
            clear hdl
            go_wp2_with (at_builtin; refine wp_app1R r _ rfl rfl (.tmp 43) (.tmp 45) rfl rfl HO5.out _ rfl rfl hll2 hbz ?_; intro v6 w6 h6 g6 a6)
            have HO6 := Lib.hid h6
            have G6 := Lib.hid (gr_trans G5.out g6 (.inr fun k e => Own.lt HO5.out k e))
            clear h6 g6 a6 c0 c1 c2
            go_wp2
            go_roundw
            case rel =>
              refine ⟨l ++ [r], f - 1, b'.drop 64, cutA A' c' 64 1, c' - 64, by rw [HDL.out], by rw [HDL.out]; exact HDR.out, by rw [HDL.out]; omega, by rw [HDL.out]; omega, ?_, HO6.out, by simp; omega, G6.out⟩
              rcases Nat.eq_zero_or_pos f with h0 | h0
              · subst h0
                have := hmore.out
                rw [readF_stop (.inl (by rw [HDL.out]; omega))] at this ⊢
                exact this
              · rw [show f - 1 + 1 = f from by omega]; exact hmore.out
            case measure => simp [lenV0]; omega
      · have hend : Hid (l = readJ b) := by show _ = _; rw [← hrd, readF_stop (.inr (by omega)), List.append_nil]
        have HG := Lib.hid hg
        obtain ⟨Al, cl, rfl⟩ := hown.rd.form
        have HO := Lib.hid hown
        clear hrd hown hg
        go_wp2
        go_ret
        exact ⟨⟨_, rfl, by rw [← hend.out]; exact HO.out⟩, HG.out⟩
    · have hend : Hid (l = readJ b) := by show _ = _; rw [← hrd, readF_stop (.inl (by omega)), List.append_nil]
      have HG := Lib.hid hg
      obtain ⟨Al, cl, rfl⟩ := hown.rd.form
      have HO := Lib.hid hown
      clear hrd hown hg
      go_wp2
      go_ret
      exact ⟨⟨_, rfl, by rw [← hend.out]; exact HO.out⟩, HG.out⟩
end Go.Proofs.Ytfbbbbekialpnaa
