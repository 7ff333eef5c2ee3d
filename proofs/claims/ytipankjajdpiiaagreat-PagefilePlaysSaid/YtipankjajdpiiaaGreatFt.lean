/-
  does' and meant's Read and Write of law08 over any owned state, kind by kind (printed by wip/tools/gen_fs3.py).
-/
import Derived.Test.YtipankjajdpiiaaGreatFs2
import Derived.Test.YtipankjajdpiiaaGreatFs0
namespace Go.Proofs.YtipankjajdpiiaaGreat
open Go.RowKit Go.Maps
set_option maxRecDepth 100000
set_option maxHeartbeats 1000000

section
variable {w0 w w' w2 : World} {p : Nat} {O : Own1} {St St' : Own1 → World → Prop} {dv fv : Value} {Ab Ad Ae : Option Addr} {nb cb nd cd ne ce : Nat}
theorem fdoes_read (hS : Sta w0 St) (hS' : Sta w0 St') (h : St O w) (nm : List UInt8) (k : Int) (D : OpV) {er : Nat} {r : List UInt8} (hrl : r.length ≤ 100000)
    (hc : ∀ W, w.grownBy W none → Calls Tryz.prog 46 #[fv, .int .i64 k] W fun e w' => ∃ v, e = .returned (.tuple #[v, .int .i64 er]) ∧ OwnB w' W.heap.size v r ∧ ∃ O', St' O' w' ∧ Ch O W O' w' ∧ ∀ q, blk v = some q → O' q = none) :
    Calls Tryz.prog 19 #[dv, fv, .agg #[.int .i64 2, .string ⟨nm.toArray⟩, .int .i64 k, .slice Ab nb cb, .int .i64 D.kind, .string ⟨D.name.toArray⟩, .string ⟨D.into.toArray⟩, .int .i64 D.off, .int .i64 D.n, .slice Ad nd cd, .int .u8 D.mask.toNat, .slice Ae ne ce]] w (ToldF St' O w ⟨r, [], 0, [], er⟩ fv) := by
  have HRL := Lib.hid hrl
  clear hrl
  have HC := Lib.hid hc
  have HOF : Hid (∀ k, w.heap.size ≤ k → O k = none) := fun k hk => hS.fresh h hk
  have HW0 := Lib.hid (hS.gr h).size
  have HST := Lib.hid h
  clear h hc
  go_enter Tryz.func19, Tryz.ntmps19
  go_wp2_with fail
  obtain ⟨W, hW⟩ : ∃ W, W = ((w.alloc (.cells #[.int .i64 2, .string ⟨nm.toArray⟩, .int .i64 k, .slice Ab nb cb, .int .i64 D.kind, .string ⟨D.name.toArray⟩, .string ⟨D.into.toArray⟩, .int .i64 D.off, .int .i64 D.n, .slice Ad nd cd, .int .u8 D.mask.toNat, .slice Ae ne ce] 63)).alloc (.cells tZ 57)).alloc (.cells tZ 57) := ⟨_, rfl⟩
  obtain ⟨b3, b4, b6, gW, hz⟩ := does3f w _ hW
  unfold tZ at hW b4 b6
  rw [← hW]
  clear hW
  refine (HC.out W gW).mono ?_
  rintro e w2 ⟨v2, rfl, ho2, O2, s2, c2, hown⟩
  obtain ⟨A2, c9, hv2⟩ := RdB.form ho2.rd
  have h42 := c2.blk b4 (HOF.out _ (by omega))
  have h62 := c2.blk b6 (HOF.out _ (by omega))
  have HLT : Hid (∀ q, blk v2 = some q → q < w2.heap.size) := fun q e => (Own.blk_lt ho2 (by omega) e).2
  have HDV : Hid (DvQ w0 St' O w w2 W.heap.size v2 r w2.heap.size) := ⟨ho2, hz, O2, s2, (Ch.ext gW).trans c2, c2.free _ (by omega) (HOF.out _ (by omega)), c2.free _ (by omega) (HOF.out _ (by omega)), HW0.out, fun q hq => hS'.fresh s2 hq, hown⟩
  have hz2 : w.heap.size + 3 ≤ w2.heap.size := Nat.le_trans hz c2.size
  have HZ2 := Lib.hid hz2
  have HZ := Lib.hid hz
  have HB4 := Lib.hid h42
  have HB6 := Lib.hid h62
  clear b3 b4 b6 gW s2 c2 ho2 hown h42 h62 hz hz2 HC
  subst hv2
  go_wp2_with fail
  have HCP := Lib.hid (copyBytes_any (.slice A2 r.length c9) r w2 HDV.out.1.rd (by have := HRL.out; omega))
  refine HCP.out.mono ?_
  rintro e w5 ⟨v5, rfl, o5, g5⟩
  obtain ⟨A5, c5, hv5⟩ := RdB.form o5.rd
  have HV5 := Lib.hid (HDV.out.ext hS' g5)
  have h45 : Blk w5 (w.heap.size + 1) 57 #[.slice none 0 0, .slice none 0 0, .int .i64 0, .string ⟨#[]⟩, .int .i64 0] := HB4.out.ext g5
  have H45 := Lib.hid h45
  have h65 : Blk w5 (w.heap.size + 2) 57 #[.slice none 0 0, .slice none 0 0, .int .i64 0, .string ⟨#[]⟩, .int .i64 0] := HB6.out.ext g5
  have H65 := Lib.hid h65
  have HO5 : Hid (OwnB w5 w2.heap.size v5 r) := o5
  have hc6 := h65.cell
  have hf6 := h65.frozen
  clear h45 h65 o5 g5 HCP HB4 HB6 HDV
  subst hv5
  go_wp2_with fail
  obtain ⟨W6, hW6⟩ : ∃ W6, W6 = (w5.setCell ⟨w.heap.size + 1 + 1, 0, none⟩ (.slice A5 r.length c5)).setCell ⟨w.heap.size + 1 + 1, 4, none⟩ (.int .i64 er) := ⟨_, rfl⟩
  rw [← hW6]
  have HV6 : Hid (DvQ w0 St' O w W6 W.heap.size (.slice A2 r.length c9) r w2.heap.size) := by show DvQ _ _ _ _ _ _ _ _ _; rw [hW6]; exact (HV5.out.put hS' (.inr rfl) _ _).put hS' (.inr rfl) _ _
  have H46 : Hid (Blk W6 (w.heap.size + 1) 57 tZ) := by show Blk _ _ _ _; rw [hW6]; unfold tZ; exact (H45.out.far (by simp) _).far (by simp) _
  have H66 : Hid (Blk W6 (w.heap.size + 2) 57 #[.slice A5 r.length c5, .slice none 0 0, .int .i64 0, .string ⟨#[]⟩, .int .i64 er]) := by show Blk _ _ _ _; rw [hW6]; exact (H65.out.set 0 _).set 4 _
  have hof : ∀ (wx : World) (K off : Nat) (x : Value), K < w2.heap.size → OwnB wx w2.heap.size (.slice A5 r.length c5) r → OwnB (wx.setCell ⟨K, off, none⟩ x) w2.heap.size (.slice A5 r.length c5) r := fun wx K off x hK h => Own.off h (gr_setCell wx ⟨K, off, none⟩ x) fun q e e2 => by
    have hq : K = q := Option.some.inj e
    have := (Own.blk_lt h (by omega) e2).1
    omega
  have HOF2 := Lib.hid hof
  have HO6 : Hid (OwnB W6 w2.heap.size (.slice A5 r.length c5) r) := by
    show OwnB _ _ _ _
    have hz2 := HZ2.out
    rw [hW6]
    exact HOF2.out _ _ 4 _ (by omega) (HOF2.out _ _ 0 _ (by omega) HO5.out)
  have hrl := HRL.out
  have hzz := HZ.out
  clear hW6 hc6 hf6 HV5 H45 H65 HO5 hof
  go_loopw [15] (fun iv wr => ∃ (k : Nat) (bs : List UInt8), k ≤ r.length ∧ iv = .int .i64 k ∧ bs.length = r.length ∧ DvQ w0 St' O w wr W.heap.size (.slice A2 bs.length c9) bs w2.heap.size ∧ Blk wr (w.heap.size + 1) 57 tZ ∧ Blk wr (w.heap.size + 2) 57 #[.slice A5 r.length c5, .slice none 0 0, .int .i64 0, .string ⟨#[]⟩, .int .i64 er] ∧ OwnB wr w2.heap.size (.slice A5 r.length c5) r) (fun iv _ => r.length - (intOf iv).toNat)
  case atStart => exact ⟨0, r, Nat.zero_le _, rfl, rfl, HV6.out, H46.out, H66.out, HO6.out⟩
  case round =>
    obtain ⟨k, bs, hk, rfl, hbs, hdv, h4, h6, ho⟩ := hrel
    by_cases hlt : k < r.length
    · obtain ⟨g, off, hA, hgB, hc, hfr, hcell, hput⟩ := hdv.byte hS' (k := k) (by omega)
      have HPUT := Lib.hid (hput 238)
      have H4P : Hid (Blk (wr.setCell ⟨g, off + k, none⟩ (.int .u8 238)) (w.heap.size + 1) 57 tZ) := h4.far (by show _ ≠ _; simp; omega) _
      have H6P : Hid (Blk (wr.setCell ⟨g, off + k, none⟩ (.int .u8 238)) (w.heap.size + 2) 57 #[.slice A5 r.length c5, .slice none 0 0, .int .i64 0, .string ⟨#[]⟩, .int .i64 er]) := h6.far (by show _ ≠ _; simp; omega) _
      have hgl : g < w2.heap.size := HLT.out g (by subst hA; show (if c9 = 0 then none else some g) = some g; rw [if_neg (by omega)])
      have HOP : Hid (OwnB (wr.setCell ⟨g, off + k, none⟩ (.int .u8 238)) w2.heap.size (.slice A5 r.length c5) r) := HOF2.out _ g _ _ hgl ho
      obtain ⟨q8, hc8⟩ : ∃ q : Int, wr.cell? ⟨g, off + k, none⟩ = some (.int .u8 q) := ⟨_, hcell⟩
      have HBS := Lib.hid hbs
      clear hput hdv h4 h6 ho hcell hbs hgl
      subst hA
      go_wp2_with fail
      go_roundw
      case rel => exact ⟨k + 1, bs.set k 238, by omega, by go_num, by rw [List.length_set]; exact HBS.out, HPUT.out, H4P.out, H6P.out, HOP.out⟩
      case measure => simp [intOf] <;> omega
    · have hq4 := h4.cell
      have hfz4 := h4.frozen
      have h60 : wr.cell? ⟨w.heap.size + 1 + 1, 0, none⟩ = some (.slice A5 r.length c5) := h6.cell 0
      have h61 : wr.cell? ⟨w.heap.size + 1 + 1, 1, none⟩ = some (.slice none 0 0) := h6.cell 1
      have h62 : wr.cell? ⟨w.heap.size + 1 + 1, 2, none⟩ = some (.int .i64 0) := h6.cell 2
      have h63 : wr.cell? ⟨w.heap.size + 1 + 1, 3, none⟩ = some (.string ⟨#[]⟩) := h6.cell 3
      have h64 : wr.cell? ⟨w.heap.size + 1 + 1, 4, none⟩ = some (.int .i64 er) := h6.cell 4
      have HB2 := Lib.hid h4
      have HD2 := Lib.hid hdv
      have HO := Lib.hid ho
      unfold tZ at hq4
      obtain rfl : k = r.length := by omega
      clear h4 h6 hdv hbs ho
      go_wp2_with fail
      obtain ⟨WF, hWF⟩ : ∃ WF, WF = ((((wr.setCell ⟨w.heap.size + 1, 0, none⟩ (.slice A5 r.length c5)).setCell ⟨w.heap.size + 1, 1, none⟩ (.slice none 0 0)).setCell ⟨w.heap.size + 1, 2, none⟩ (.int .i64 0)).setCell ⟨w.heap.size + 1, 3, none⟩ (.string ⟨#[]⟩)).setCell ⟨w.heap.size + 1, 4, none⟩ (.int .i64 er) := ⟨_, rfl⟩
      rw [← hWF]
      have hcf := ffin (by rfl) HB2.out _ _ _ _ _ hWF
      have HDF : Hid (DoQ w0 St' O w WF) := HD2.out.doq.fin hS' (.inl rfl) _ _ _ _ _ hWF
      have HRF : Hid (OwnB WF w2.heap.size (.slice A5 r.length c5) r) := by
        show OwnB _ _ _ _
        have hz2 := HZ2.out
        rw [hWF]
        exact HOF2.out _ _ 4 _ (by omega) (HOF2.out _ _ 3 _ (by omega) (HOF2.out _ _ 2 _ (by omega) (HOF2.out _ _ 1 _ (by omega) (HOF2.out _ _ 0 _ (by omega) HO.out))))
      clear hWF hq4 hfz4 h60 h61 h62 h63 h64
      refine bodyPost_ret (v := .tuple #[.agg #[.slice A5 r.length c5, .slice none 0 0, .int .i64 0, .string ⟨#[]⟩, .int .i64 er], fv]) (by simp [results, Tryz.results19, go_sem, hcf]) rfl ?_
      obtain ⟨O9, s9, c9'⟩ := HDF.out.stn
      exact ⟨A5, none, c5, 0, rfl, Own.mono HRF.out (by have := HZ2.out; omega), Own.nil _ _ _, O9, s9, c9'⟩
theorem fdoes_write (hS : Sta w0 St) (hS' : Sta w0 St') (h : St O w) (nm : List UInt8) (k : Int) (D : OpV) {er : Nat} {r : List UInt8} (hb : RdB w (.slice Ab nb cb) r) (hrl : r.length ≤ 100000)
    (hc : ∀ W v, w.grownBy W none → RdB W v r → (∀ q, blk v = some q → q < W.heap.size ∧ w.heap.size ≤ q) → Calls Tryz.prog 45 #[fv, .int .i64 k, v] W fun e w' => e = .returned (.int .i64 er) ∧ StN St' O W w') :
    Calls Tryz.prog 19 #[dv, fv, .agg #[.int .i64 3, .string ⟨nm.toArray⟩, .int .i64 k, .slice Ab nb cb, .int .i64 D.kind, .string ⟨D.name.toArray⟩, .string ⟨D.into.toArray⟩, .int .i64 D.off, .int .i64 D.n, .slice Ad nd cd, .int .u8 D.mask.toNat, .slice Ae ne ce]] w (ToldF St' O w ⟨r, [], 0, [], er⟩ fv) := by
  have HRL := Lib.hid hrl
  have HBB := Lib.hid hb
  clear hrl hb
  have HC := Lib.hid hc
  have HOF : Hid (∀ k, w.heap.size ≤ k → O k = none) := fun k hk => hS.fresh h hk
  have HW0 := Lib.hid (hS.gr h).size
  have HST := Lib.hid h
  clear h hc
  go_enter Tryz.func19, Tryz.ntmps19
  go_wp2_with fail
  obtain ⟨W, hW⟩ : ∃ W, W = ((w.alloc (.cells #[.int .i64 3, .string ⟨nm.toArray⟩, .int .i64 k, .slice Ab nb cb, .int .i64 D.kind, .string ⟨D.name.toArray⟩, .string ⟨D.into.toArray⟩, .int .i64 D.off, .int .i64 D.n, .slice Ad nd cd, .int .u8 D.mask.toNat, .slice Ae ne ce] 63)).alloc (.cells tZ 57)).alloc (.cells tZ 57) := ⟨_, rfl⟩
  obtain ⟨b3, b4, b6, gW, hz⟩ := does3f w _ hW
  unfold tZ at hW b4 b6
  rw [← hW]
  clear hW
  have HCP := Lib.hid (copyBytes_any _ _ W (HBB.out.ext gW) (by have := HRL.out; omega))
  refine HCP.out.mono ?_
  rintro e w1 ⟨v2, rfl, o1, g1⟩
  obtain ⟨A2, c9, hv2⟩ := RdB.form o1.rd
  have HWR := Lib.hid (HC.out w1 v2 (gr_none gW g1) o1.rd fun q e => ⟨(Own.blk_lt o1 (by omega) e).2, by have := (Own.blk_lt o1 (by omega) e).1; omega⟩)
  have HO1 := Lib.hid o1
  have HB4 := Lib.hid (b4.ext g1)
  have HB6 := Lib.hid (b6.ext g1)
  have hc30 : w1.cell? ⟨w.heap.size, 2, none⟩ = some (.int .i64 k) := (b3.ext g1).cell 2
  have HGW := Lib.hid gW
  have HG1 := Lib.hid g1
  have HZ := Lib.hid hz
  clear b3 b4 b6 gW g1 hz o1 HCP HC
  subst hv2
  go_wp2_with fail
  refine HWR.out.mono ?_
  rintro e w2 ⟨rfl, O2, s2, c2⟩
  have hz := HZ.out
  have hg1z := HG1.out.size
  have ho2 : OwnB w2 W.heap.size (.slice A2 r.length c9) r := c2.own HO1.out (by omega) fun q e => HOF.out q (by have := (Own.blk_lt HO1.out (by omega) e).1; omega)
  have h42 : Blk w2 (w.heap.size + 1) 57 #[.slice none 0 0, .slice none 0 0, .int .i64 0, .string ⟨#[]⟩, .int .i64 0] := c2.blk HB4.out (HOF.out _ (by omega))
  have h62 : Blk w2 (w.heap.size + 2) 57 #[.slice none 0 0, .slice none 0 0, .int .i64 0, .string ⟨#[]⟩, .int .i64 0] := c2.blk HB6.out (HOF.out _ (by omega))
  have HLT : Hid (∀ q, blk (.slice A2 r.length c9) = some q → q < w2.heap.size) := fun q e => (Own.blk_lt ho2 (by omega) e).2
  have HDV : Hid (DvQ w0 St' O w w2 W.heap.size (.slice A2 r.length c9) r w2.heap.size) := ⟨ho2, hz, O2, s2, (Ch.ext (gr_none HGW.out HG1.out)).trans c2, c2.free _ (by omega) (HOF.out _ (by omega)), c2.free _ (by omega) (HOF.out _ (by omega)), HW0.out, fun q hq => hS'.fresh s2 hq, fun q e => c2.free q (Own.blk_lt HO1.out (by omega) e).2 (HOF.out q (by have := (Own.blk_lt HO1.out (by omega) e).1; omega))⟩
  have HZ2 : Hid (w.heap.size + 3 ≤ w2.heap.size) := Nat.le_trans (Nat.le_trans hz hg1z) c2.size
  clear HB4 HB6
  have HB4 := Lib.hid h42
  have HB6 := Lib.hid h62
  have hc6 := h62.cell
  have hf6 := h62.frozen
  clear s2 c2 ho2 h42 h62 hz hg1z HO1 hc30 HWR
  go_wp2_with fail
  obtain ⟨W4, hW4⟩ : ∃ W4, W4 = w2.setCell ⟨w.heap.size + 1 + 1, 4, none⟩ (.int .i64 er) := ⟨_, rfl⟩
  rw [← hW4]
  have hdv4 : DvQ w0 St' O w W4 W.heap.size (.slice A2 r.length c9) r w2.heap.size := by rw [hW4]; exact HDV.out.put hS' (.inr rfl) _ _
  have h44 : Blk W4 (w.heap.size + 1) 57 #[.slice none 0 0, .slice none 0 0, .int .i64 0, .string ⟨#[]⟩, .int .i64 0] := by rw [hW4]; exact HB4.out.far (by simp) _
  have h64 : Blk W4 (w.heap.size + 2) 57 #[.slice none 0 0, .slice none 0 0, .int .i64 0, .string ⟨#[]⟩, .int .i64 er] := by rw [hW4]; exact HB6.out.set 4 _
  have hz4 : w2.heap.size ≤ W4.heap.size := by rw [hW4]; exact (gr_setCell w2 _ _).size
  have HCP := Lib.hid (copyBytes_any (.slice A2 r.length c9) r W4 hdv4.1.rd (by have := HRL.out; omega))
  refine HCP.out.mono ?_
  rintro e w5 ⟨v5, rfl, o5, g5⟩
  obtain ⟨A5, c5, hv5⟩ := RdB.form o5.rd
  have HV5 := Lib.hid (hdv4.ext hS' g5)
  have H45 := Lib.hid (h44.ext g5)
  have h65 := h64.ext g5
  have H65 := Lib.hid h65
  have HO5 : Hid (OwnB w5 w2.heap.size v5 r) := Own.mono o5 hz4
  have hc6 := h65.cell
  have hf6 := h65.frozen
  clear hW4 hdv4 h44 h64 h65 o5 g5 hz4 HCP HB4 HB6 HDV
  subst hv5
  go_wp2_with fail
  obtain ⟨W6, hW6⟩ : ∃ W6, W6 = w5.setCell ⟨w.heap.size + 1 + 1, 0, none⟩ (.slice A5 r.length c5) := ⟨_, rfl⟩
  rw [← hW6]
  have HV6 : Hid (DvQ w0 St' O w W6 W.heap.size (.slice A2 r.length c9) r w2.heap.size) := by show DvQ _ _ _ _ _ _ _ _ _; rw [hW6]; exact HV5.out.put hS' (.inr rfl) _ _
  have H46 : Hid (Blk W6 (w.heap.size + 1) 57 tZ) := by show Blk _ _ _ _; rw [hW6]; unfold tZ; exact H45.out.far (by simp) _
  have H66 : Hid (Blk W6 (w.heap.size + 2) 57 #[.slice A5 r.length c5, .slice none 0 0, .int .i64 0, .string ⟨#[]⟩, .int .i64 er]) := by show Blk _ _ _ _; rw [hW6]; exact H65.out.set 0 _
  have hof : ∀ (wx : World) (K off : Nat) (x : Value), K < w2.heap.size → OwnB wx w2.heap.size (.slice A5 r.length c5) r → OwnB (wx.setCell ⟨K, off, none⟩ x) w2.heap.size (.slice A5 r.length c5) r := fun wx K off x hK h => Own.off h (gr_setCell wx ⟨K, off, none⟩ x) fun q e e2 => by
    have hq : K = q := Option.some.inj e
    have := (Own.blk_lt h (by omega) e2).1
    omega
  have HOF2 := Lib.hid hof
  have HO6 : Hid (OwnB W6 w2.heap.size (.slice A5 r.length c5) r) := by
    show OwnB _ _ _ _
    have hz2 := HZ2.out
    rw [hW6]
    exact HOF2.out _ _ 0 _ (by omega) HO5.out
  have hrl := HRL.out
  have hzz := HZ.out
  clear hW6 hc6 hf6 HV5 H45 H65 HO5 hof
  go_loopw [17] (fun iv wr => ∃ (k : Nat) (bs : List UInt8), k ≤ r.length ∧ iv = .int .i64 k ∧ bs.length = r.length ∧ DvQ w0 St' O w wr W.heap.size (.slice A2 bs.length c9) bs w2.heap.size ∧ Blk wr (w.heap.size + 1) 57 tZ ∧ Blk wr (w.heap.size + 2) 57 #[.slice A5 r.length c5, .slice none 0 0, .int .i64 0, .string ⟨#[]⟩, .int .i64 er] ∧ OwnB wr w2.heap.size (.slice A5 r.length c5) r) (fun iv _ => r.length - (intOf iv).toNat)
  case atStart => exact ⟨0, r, Nat.zero_le _, rfl, rfl, HV6.out, H46.out, H66.out, HO6.out⟩
  case round =>
    obtain ⟨k, bs, hk, rfl, hbs, hdv, h4, h6, ho⟩ := hrel
    by_cases hlt : k < r.length
    · obtain ⟨g, off, hA, hgB, hc, hfr, hcell, hput⟩ := hdv.byte hS' (k := k) (by omega)
      have HPUT := Lib.hid (hput 237)
      have H4P : Hid (Blk (wr.setCell ⟨g, off + k, none⟩ (.int .u8 237)) (w.heap.size + 1) 57 tZ) := h4.far (by show _ ≠ _; simp; omega) _
      have H6P : Hid (Blk (wr.setCell ⟨g, off + k, none⟩ (.int .u8 237)) (w.heap.size + 2) 57 #[.slice A5 r.length c5, .slice none 0 0, .int .i64 0, .string ⟨#[]⟩, .int .i64 er]) := h6.far (by show _ ≠ _; simp; omega) _
      have hgl : g < w2.heap.size := HLT.out g (by subst hA; show (if c9 = 0 then none else some g) = some g; rw [if_neg (by omega)])
      have HOP : Hid (OwnB (wr.setCell ⟨g, off + k, none⟩ (.int .u8 237)) w2.heap.size (.slice A5 r.length c5) r) := HOF2.out _ g _ _ hgl ho
      obtain ⟨q8, hc8⟩ : ∃ q : Int, wr.cell? ⟨g, off + k, none⟩ = some (.int .u8 q) := ⟨_, hcell⟩
      have HBS := Lib.hid hbs
      clear hput hdv h4 h6 ho hcell hbs hgl
      subst hA
      go_wp2_with fail
      go_roundw
      case rel => exact ⟨k + 1, bs.set k 237, by omega, by go_num, by rw [List.length_set]; exact HBS.out, HPUT.out, H4P.out, H6P.out, HOP.out⟩
      case measure => simp [intOf] <;> omega
    · have hq4 := h4.cell
      have hfz4 := h4.frozen
      have h60 : wr.cell? ⟨w.heap.size + 1 + 1, 0, none⟩ = some (.slice A5 r.length c5) := h6.cell 0
      have h61 : wr.cell? ⟨w.heap.size + 1 + 1, 1, none⟩ = some (.slice none 0 0) := h6.cell 1
      have h62 : wr.cell? ⟨w.heap.size + 1 + 1, 2, none⟩ = some (.int .i64 0) := h6.cell 2
      have h63 : wr.cell? ⟨w.heap.size + 1 + 1, 3, none⟩ = some (.string ⟨#[]⟩) := h6.cell 3
      have h64 : wr.cell? ⟨w.heap.size + 1 + 1, 4, none⟩ = some (.int .i64 er) := h6.cell 4
      have HB2 := Lib.hid h4
      have HD2 := Lib.hid hdv
      have HO := Lib.hid ho
      unfold tZ at hq4
      obtain rfl : k = r.length := by omega
      clear h4 h6 hdv hbs ho
      go_wp2_with fail
      obtain ⟨WF, hWF⟩ : ∃ WF, WF = ((((wr.setCell ⟨w.heap.size + 1, 0, none⟩ (.slice A5 r.length c5)).setCell ⟨w.heap.size + 1, 1, none⟩ (.slice none 0 0)).setCell ⟨w.heap.size + 1, 2, none⟩ (.int .i64 0)).setCell ⟨w.heap.size + 1, 3, none⟩ (.string ⟨#[]⟩)).setCell ⟨w.heap.size + 1, 4, none⟩ (.int .i64 er) := ⟨_, rfl⟩
      rw [← hWF]
      have hcf := ffin (by rfl) HB2.out _ _ _ _ _ hWF
      have HDF : Hid (DoQ w0 St' O w WF) := HD2.out.doq.fin hS' (.inl rfl) _ _ _ _ _ hWF
      have HRF : Hid (OwnB WF w2.heap.size (.slice A5 r.length c5) r) := by
        show OwnB _ _ _ _
        have hz2 := HZ2.out
        rw [hWF]
        exact HOF2.out _ _ 4 _ (by omega) (HOF2.out _ _ 3 _ (by omega) (HOF2.out _ _ 2 _ (by omega) (HOF2.out _ _ 1 _ (by omega) (HOF2.out _ _ 0 _ (by omega) HO.out))))
      clear hWF hq4 hfz4 h60 h61 h62 h63 h64
      refine bodyPost_ret (v := .tuple #[.agg #[.slice A5 r.length c5, .slice none 0 0, .int .i64 0, .string ⟨#[]⟩, .int .i64 er], fv]) (by simp [results, Tryz.results19, go_sem, hcf]) rfl ?_
      obtain ⟨O9, s9, c9'⟩ := HDF.out.stn
      exact ⟨A5, none, c5, 0, rfl, Own.mono HRF.out (by have := HZ2.out; omega), Own.nil _ _ _, O9, s9, c9'⟩
theorem fmeant_read (hS : Sta w0 St) (hS' : Sta w0 St') (h : St O w) (nm : List UInt8) (k : Int) (D : OpV) {er : Nat} {r : List UInt8}
    (hc : ∀ W, w.grownBy W none → Calls Tryz.prog 56 #[fv, .int .i64 k] W fun e w' => ∃ v, e = .returned (.tuple #[v, .int .i64 er]) ∧ OwnB w' W.heap.size v r ∧ StN St' O W w') :
    Calls Tryz.prog 20 #[dv, fv, .agg #[.int .i64 2, .string ⟨nm.toArray⟩, .int .i64 k, .slice Ab nb cb, .int .i64 D.kind, .string ⟨D.name.toArray⟩, .string ⟨D.into.toArray⟩, .int .i64 D.off, .int .i64 D.n, .slice Ad nd cd, .int .u8 D.mask.toNat, .slice Ae ne ce]] w (ToldF St' O w ⟨r, [], 0, [], er⟩ fv) := by
  have HC := Lib.hid hc
  have HOF : Hid (∀ k, w.heap.size ≤ k → O k = none) := fun k hk => hS.fresh h hk
  have HW0 := Lib.hid (hS.gr h).size
  have HST := Lib.hid h
  clear h hc
  go_enter Tryz.func20, Tryz.ntmps20
  go_wp2_with fail
  obtain ⟨W, hW⟩ : ∃ W, W = ((w.alloc (.cells #[.int .i64 2, .string ⟨nm.toArray⟩, .int .i64 k, .slice Ab nb cb, .int .i64 D.kind, .string ⟨D.name.toArray⟩, .string ⟨D.into.toArray⟩, .int .i64 D.off, .int .i64 D.n, .slice Ad nd cd, .int .u8 D.mask.toNat, .slice Ae ne ce] 63)).alloc (.cells tZ 57)).alloc (.cells tZ 57) := ⟨_, rfl⟩
  obtain ⟨b3, b4, b6, gW, hz⟩ := does3f w _ hW
  unfold tZ at hW b4 b6
  rw [← hW]
  clear hW
  refine (HC.out W gW).mono ?_
  rintro e w2 ⟨v2, rfl, ho2, O2, s2, c2⟩
  obtain ⟨A5, c5, hv2⟩ := RdB.form ho2.rd
  subst hv2
  have HR2 := Lib.hid ho2
  have HOFF : Hid (∀ (wx : World) (K off : Nat) (x : Value), K < W.heap.size → OwnB wx W.heap.size (.slice A5 r.length c5) r → OwnB (wx.setCell ⟨K, off, none⟩ x) W.heap.size (.slice A5 r.length c5) r) := fun wx K off x hK h => Own.off h (gr_setCell wx ⟨K, off, none⟩ x) fun q e e2 => by
    have hq : K = q := Option.some.inj e
    have := (Own.blk_lt h (by omega) e2).1
    omega
  have HWW : Hid (w.heap.size + 1 < W.heap.size ∧ w.heap.size + 1 + 1 < W.heap.size) := ⟨by omega, by omega⟩
  clear ho2
  have b42 := c2.blk b4 (HOF.out _ (by omega))
  have b62 := c2.blk b6 (HOF.out _ (by omega))
  have HD : Hid (DoQ w0 St' O w w2) := DoQ.of ⟨O2, s2, c2⟩ gW hz HOF.out HW0.out
  clear s2 c2 b3 b4 b6 gW hz
  have hc4 := b42.cell
  have hf4 := b42.frozen
  have hc6 := b62.cell
  have hf6 := b62.frozen
  have HB4 := Lib.hid b42
  clear b42 b62
  go_wp2
  obtain ⟨W3, hW3⟩ : ∃ W3, W3 = (w2.setCell ⟨w.heap.size + 1 + 1, 0, none⟩ (.slice A5 r.length c5)).setCell ⟨w.heap.size + 1 + 1, 4, none⟩ (.int .i64 er) := ⟨_, rfl⟩
  rw [← hW3]
  have hb3 : Blk W3 (w.heap.size + 1) 57 tZ := by rw [hW3]; unfold tZ; exact (HB4.out.far (by simp) _).far (by simp) _
  have hd3 : DoQ w0 St' O w W3 := by rw [hW3]; exact (HD.out.set hS' (.inr rfl) _ _).set hS' (.inr rfl) _ _
  obtain ⟨WF, hWF⟩ : ∃ WF, WF = ((((W3.setCell ⟨w.heap.size + 1, 0, none⟩ (.slice A5 r.length c5)).setCell ⟨w.heap.size + 1, 1, none⟩ (.slice none 0 0)).setCell ⟨w.heap.size + 1, 2, none⟩ (.int .i64 0)).setCell ⟨w.heap.size + 1, 3, none⟩ (.string ⟨#[]⟩)).setCell ⟨w.heap.size + 1, 4, none⟩ (.int .i64 er) := ⟨_, rfl⟩
  rw [← hWF]
  have hcf := ffin (by rfl) hb3 _ _ _ _ _ hWF
  have HDF : Hid (DoQ w0 St' O w WF) := hd3.fin hS' (.inl rfl) _ _ _ _ _ hWF
  have HRF : Hid (OwnB WF W.heap.size (.slice A5 r.length c5) r) := by
    show OwnB _ _ _ _
    rw [hWF, hW3]
    have h1 := HWW.out.1
    have h2 := HWW.out.2
    exact HOFF.out _ _ _ _ h1 (HOFF.out _ _ _ _ h1 (HOFF.out _ _ _ _ h1 (HOFF.out _ _ _ _ h1 (HOFF.out _ _ _ _ h1 (HOFF.out _ _ _ _ h2 (HOFF.out _ _ _ _ h2 HR2.out))))))
  clear hWF hW3 hb3 hd3 hc4 hf4 hc6 hf6
  refine bodyPost_ret (v := .tuple #[.agg #[.slice A5 r.length c5, .slice none 0 0, .int .i64 0, .string ⟨#[]⟩, .int .i64 er], fv]) (by simp [results, Tryz.results20, go_sem, hcf]) rfl ?_
  obtain ⟨O9, s9, c9'⟩ := HDF.out.stn
  exact ⟨A5, none, c5, 0, rfl, Own.mono HRF.out (by have := HWW.out.1; omega), Own.nil _ _ _, O9, s9, c9'⟩
theorem fmeant_write (hS : Sta w0 St) (hS' : Sta w0 St') (h : St O w) (nm : List UInt8) (k : Int) (D : OpV) {er : Nat} {r : List UInt8} (hb0 : RdB w0 (.slice Ab nb cb) r) (hrl : r.length ≤ 100000)
    (hc : ∀ W, w.grownBy W none → Calls Tryz.prog 57 #[fv, .int .i64 k, .slice Ab nb cb] W fun e w' => e = .returned (.int .i64 er) ∧ StN St' O W w') :
    Calls Tryz.prog 20 #[dv, fv, .agg #[.int .i64 3, .string ⟨nm.toArray⟩, .int .i64 k, .slice Ab nb cb, .int .i64 D.kind, .string ⟨D.name.toArray⟩, .string ⟨D.into.toArray⟩, .int .i64 D.off, .int .i64 D.n, .slice Ad nd cd, .int .u8 D.mask.toNat, .slice Ae ne ce]] w (ToldF St' O w ⟨r, [], 0, [], er⟩ fv) := by
  have HRL := Lib.hid hrl
  have HBB := Lib.hid hb0
  clear hrl hb0
  have HC := Lib.hid hc
  have HOF : Hid (∀ k, w.heap.size ≤ k → O k = none) := fun k hk => hS.fresh h hk
  have HW0 := Lib.hid (hS.gr h).size
  have HST := Lib.hid h
  clear h hc
  go_enter Tryz.func20, Tryz.ntmps20
  go_wp2_with fail
  obtain ⟨W, hW⟩ : ∃ W, W = ((w.alloc (.cells #[.int .i64 3, .string ⟨nm.toArray⟩, .int .i64 k, .slice Ab nb cb, .int .i64 D.kind, .string ⟨D.name.toArray⟩, .string ⟨D.into.toArray⟩, .int .i64 D.off, .int .i64 D.n, .slice Ad nd cd, .int .u8 D.mask.toNat, .slice Ae ne ce] 63)).alloc (.cells tZ 57)).alloc (.cells tZ 57) := ⟨_, rfl⟩
  obtain ⟨b3, b4, b6, gW, hz⟩ := does3f w _ hW
  unfold tZ at hW b4 b6
  rw [← hW]
  clear hW
  have HB3 := Lib.hid b3
  have HGW := Lib.hid gW
  have HZ := Lib.hid hz
  refine (HC.out W gW).mono ?_
  rintro e w2 ⟨rfl, O2, s2, c2⟩
  have hb32 := c2.blk HB3.out (HOF.out _ (by omega))
  have HZ2 : Hid (w.heap.size + 3 ≤ w2.heap.size) := Nat.le_trans hz c2.size
  clear HB3
  have b42 := c2.blk b4 (HOF.out _ (by omega))
  have b62 := c2.blk b6 (HOF.out _ (by omega))
  have HD : Hid (DoQ w0 St' O w w2) := DoQ.of ⟨O2, s2, c2⟩ gW hz HOF.out HW0.out
  clear s2 c2 b3 b4 b6 gW hz
  have hc4 := b42.cell
  have hf4 := b42.frozen
  have hc6 := b62.cell
  have hf6 := b62.frozen
  have HB4 := Lib.hid b42
  have HB6 := Lib.hid b62
  have hc33 : w2.cell? ⟨w.heap.size, 3, none⟩ = some (.slice Ab nb cb) := hb32.cell 3
  clear b42 b62 hb32 hc4 hf4
  go_wp2_with fail
  obtain ⟨W4, hW4⟩ : ∃ W4, W4 = w2.setCell ⟨w.heap.size + 1 + 1, 4, none⟩ (.int .i64 er) := ⟨_, rfl⟩
  rw [← hW4]
  have hd4 : DoQ w0 St' O w W4 := by rw [hW4]; exact HD.out.set hS' (.inr rfl) _ _
  have h44 : Blk W4 (w.heap.size + 1) 57 #[.slice none 0 0, .slice none 0 0, .int .i64 0, .string ⟨#[]⟩, .int .i64 0] := by rw [hW4]; exact HB4.out.far (by simp) _
  have h64 : Blk W4 (w.heap.size + 2) 57 #[.slice none 0 0, .slice none 0 0, .int .i64 0, .string ⟨#[]⟩, .int .i64 er] := by rw [hW4]; exact HB6.out.set 4 _
  have hb4 : RdB W4 (.slice Ab nb cb) r := by obtain ⟨O9, s9, -⟩ := hd4; exact HBB.out.ext (hS'.gr s9)
  have HCP := Lib.hid (copyBytes_any _ _ W4 hb4 (by have := HRL.out; omega))
  have hz4 : w2.heap.size ≤ W4.heap.size := by rw [hW4]; exact (gr_setCell w2 _ _).size
  refine HCP.out.mono ?_
  rintro e w5 ⟨v5, rfl, o5, g5⟩
  obtain ⟨A5, c5, hv5⟩ := RdB.form o5.rd
  subst hv5
  have HO5 : Hid (OwnB w5 w2.heap.size (.slice A5 r.length c5) r) := Own.mono o5 hz4
  have HOFF : Hid (∀ (wx : World) (K off : Nat) (x : Value), K < w2.heap.size → OwnB wx w2.heap.size (.slice A5 r.length c5) r → OwnB (wx.setCell ⟨K, off, none⟩ x) w2.heap.size (.slice A5 r.length c5) r) := fun wx K off x hK h => Own.off h (gr_setCell wx ⟨K, off, none⟩ x) fun q e e2 => by
    have hq : K = q := Option.some.inj e
    have := (Own.blk_lt h (by omega) e2).1
    omega
  have HD5 := Lib.hid (hd4.ext hS' g5)
  have H45 := Lib.hid (h44.ext g5)
  have hc4 := (h44.ext g5).cell
  have hf4 := (h44.ext g5).frozen
  have hc6 := (h64.ext g5).cell
  have hf6 := (h64.ext g5).frozen
  have HWW : Hid (w.heap.size + 1 < w2.heap.size ∧ w.heap.size + 1 + 1 < w2.heap.size) := by have := HZ2.out; exact ⟨by omega, by omega⟩
  clear hW4 hd4 h44 h64 hb4 o5 g5 hz4 HCP HB4 HB6 HD
  go_wp2
  obtain ⟨W3, hW3⟩ : ∃ W3, W3 = w5.setCell ⟨w.heap.size + 1 + 1, 0, none⟩ (.slice A5 r.length c5) := ⟨_, rfl⟩
  rw [← hW3]
  have hb3 : Blk W3 (w.heap.size + 1) 57 tZ := by rw [hW3]; unfold tZ; exact H45.out.far (by simp) _
  have hd3 : DoQ w0 St' O w W3 := by rw [hW3]; exact HD5.out.set hS' (.inr rfl) _ _
  obtain ⟨WF, hWF⟩ : ∃ WF, WF = ((((W3.setCell ⟨w.heap.size + 1, 0, none⟩ (.slice A5 r.length c5)).setCell ⟨w.heap.size + 1, 1, none⟩ (.slice none 0 0)).setCell ⟨w.heap.size + 1, 2, none⟩ (.int .i64 0)).setCell ⟨w.heap.size + 1, 3, none⟩ (.string ⟨#[]⟩)).setCell ⟨w.heap.size + 1, 4, none⟩ (.int .i64 er) := ⟨_, rfl⟩
  rw [← hWF]
  have hcf := ffin (by rfl) hb3 _ _ _ _ _ hWF
  have HDF : Hid (DoQ w0 St' O w WF) := hd3.fin hS' (.inl rfl) _ _ _ _ _ hWF
  have HRF : Hid (OwnB WF w2.heap.size (.slice A5 r.length c5) r) := by
    show OwnB _ _ _ _
    rw [hWF, hW3]
    have h1 := HWW.out.1
    have h2 := HWW.out.2
    exact HOFF.out _ _ _ _ h1 (HOFF.out _ _ _ _ h1 (HOFF.out _ _ _ _ h1 (HOFF.out _ _ _ _ h1 (HOFF.out _ _ _ _ h1 (HOFF.out _ _ _ _ h2 HO5.out)))))
  clear hWF hW3 hb3 hd3 hc4 hf4 hc6 hf6
  refine bodyPost_ret (v := .tuple #[.agg #[.slice A5 r.length c5, .slice none 0 0, .int .i64 0, .string ⟨#[]⟩, .int .i64 er], fv]) (by simp [results, Tryz.results20, go_sem, hcf]) rfl ?_
  obtain ⟨O9, s9, c9'⟩ := HDF.out.stn
  exact ⟨A5, none, c5, 0, rfl, Own.mono HRF.out (by have := HWW.out.1; omega), Own.nil _ _ _, O9, s9, c9'⟩
end
end Go.Proofs.YtipankjajdpiiaaGreat

/- What is told twice is the same: EqNumbers, sameTold of law08. -/
namespace Go.Proofs.YtipankjajdpiiaaGreat
open Go.RowKit Go.Maps
set_option maxRecDepth 100000
set_option maxHeartbeats 1000000

theorem RdI.cells_ {w : World} {A : Option Addr} {c : Nat} {l : List Int} (h : RdI w (.slice A l.length c) l) : ∃ g off, (0 < l.length → A = some ⟨g, off, none⟩) ∧ l.length ≤ c ∧ c ≤ maxLen ∧ ∀ k (hk : k < l.length), w.cell? ⟨g, off + k, none⟩ = some (.int .i64 l[k]) := by
  obtain ⟨hl, A', c', g, off, e, hn, hc, hA0, hA, hx⟩ := h
  cases e
  refine ⟨g, off, fun h0 => hA (by omega), hn, hc, fun k hk => ?_⟩
  rw [hx k (by omega)]
  unfold intL
  rw [List.getElem?_map, List.getElem?_eq_getElem hk]
  rfl
set_option maxHeartbeats 2000000 in
theorem eqNums_same (v v' : Value) (l : List Int) (w : World) (h : RdI w v l) (h' : RdI w v' l) :
    Calls Tryz.prog 63 #[v, v'] w fun e w' => e = .returned (.bool true) ∧ w.grownBy w' none := by
  obtain ⟨A, c, rfl⟩ := h.form
  obtain ⟨A', c', rfl⟩ := h'.form
  obtain ⟨g, off, hA, hcap, hmx, hcells⟩ := h.cells_
  obtain ⟨g', off', hA', hcap', hmx', hcells'⟩ := h'.cells_
  have hl : l.length ≤ 9223372036854775807 := by unfold maxLen at hmx; omega
  have HA := Lib.hid hA
  have HA' := Lib.hid hA'
  have HC := Lib.hid hcells
  have HC' := Lib.hid hcells'
  clear hA hA' hcells hcells' h h'
  go_enter Tryz.func63, Tryz.ntmps63
  go_wp2
  go_loopw [5, 6] (fun s i wr => ∃ k : Nat, k ≤ l.length ∧ i = .int .i64 k ∧ s = .bool true ∧ w.grownBy wr none) (fun _ i _ => l.length - (intOf i).toNat)
  case atStart => exact ⟨0, Nat.zero_le _, rfl, by simp, gr_refl _ _⟩
  case round =>
    obtain ⟨k, hk, rfl, rfl, hg⟩ := hrel
    by_cases hlt : k < l.length
    · obtain rfl := HA.out (by omega)
      obtain rfl := HA'.out (by omega)
      have c1 : wr.cell? ⟨g, off + k, none⟩ = some (.int .i64 l[k]) := hg.cell (HC.out k hlt) (by simp)
      have c2 : wr.cell? ⟨g', off' + k, none⟩ = some (.int .i64 l[k]) := hg.cell (HC'.out k hlt) (by simp)
      have HG := Lib.hid hg
      generalize l[k] = z at *
      clear hg
      go_wp2_with fail
      go_quiet (fail)
      go_wp2
      go_roundw
      case rel => exact ⟨k + 1, by omega, by go_num, by simp, gr_none HG.out (gr_drewN _ _ _)⟩
      case measure => simp [intOf]; omega
    · obtain rfl : k = l.length := by omega
      have HG := Lib.hid hg
      clear hg
      go_wp2
      go_ret
      exact ⟨rfl, HG.out⟩
theorem sameTold_same {w : World} {x : Tl} {A A2 A' A2' : Option Addr} {c c2 c' c2' : Nat} (hb : RdB w (.slice A x.b.length c) x.b) (hb' : RdB w (.slice A' x.b.length c') x.b) (hl : RdI w (.slice A2 x.l.length c2) x.l) (hl' : RdI w (.slice A2' x.l.length c2') x.l) :
    Calls Tryz.prog 21 #[.agg #[.slice A x.b.length c, .slice A2 x.l.length c2, .int .i64 (x.n : Nat), .string ⟨x.s.toArray⟩, .int .i64 (x.e : Nat)], .agg #[.slice A' x.b.length c', .slice A2' x.l.length c2', .int .i64 (x.n : Nat), .string ⟨x.s.toArray⟩, .int .i64 (x.e : Nat)]] w fun e w' => e = .returned (.bool true) ∧ w.grownBy w' none := by
  obtain ⟨b, l, n, s, er⟩ := x
  dsimp only at *
  have HE : Hid (∀ wx, w.grownBy wx none → Calls Tryz.prog 62 #[.slice A b.length c, .slice A' b.length c'] wx fun e w' => e = .returned (.bool true) ∧ wx = w') := fun wx g => (eqBytes_any _ _ b b wx (hb.ext g) (hb'.ext g)).mono fun e w' ⟨h1, h2⟩ => ⟨by rw [h1, beq_self_eq_true], h2⟩
  have HN : Hid (∀ wx, w.grownBy wx none → Calls Tryz.prog 63 #[.slice A2 l.length c2, .slice A2' l.length c2'] wx fun e w' => e = .returned (.bool true) ∧ wx.grownBy w' none) := fun wx g => eqNums_same _ _ l wx (hl.ext g) (hl'.ext g)
  clear hb hb' hl hl'
  obtain ⟨W, hW⟩ : ∃ W, W = (w.alloc (.cells #[.slice A b.length c, .slice A2 l.length c2, .int .i64 n, .string ⟨s.toArray⟩, .int .i64 er] 57)).alloc (.cells #[.slice A' b.length c', .slice A2' l.length c2', .int .i64 n, .string ⟨s.toArray⟩, .int .i64 er] 57) := ⟨_, rfl⟩
  have HG : Hid (w.grownBy W none) := by show w.grownBy _ none; rw [hW]; exact gr_none (gr_alloc _ _ none) (gr_alloc _ _ none)
  have h1 : Blk W w.heap.size 57 #[.slice A b.length c, .slice A2 l.length c2, .int .i64 n, .string ⟨s.toArray⟩, .int .i64 er] := by rw [hW]; exact (Blk.new w _ _).ext (gr_alloc _ _ none)
  have h2 : Blk W (w.heap.size + 1) 57 #[.slice A' b.length c', .slice A2' l.length c2', .int .i64 n, .string ⟨s.toArray⟩, .int .i64 er] := by
    rw [hW]
    have := Blk.new (w.alloc (.cells #[.slice A b.length c, .slice A2 l.length c2, .int .i64 n, .string ⟨s.toArray⟩, .int .i64 er] 57)) 57 #[.slice A' b.length c', .slice A2' l.length c2', .int .i64 n, .string ⟨s.toArray⟩, .int .i64 er]
    rw [World.size_alloc] at this
    exact this
  have HB1 := Lib.hid h1
  have HB2 := Lib.hid h2
  have k1 := h1.cell
  have k2 := h2.cell
  rw [hW] at k1 k2
  have HW : Hid (W = (w.alloc (.cells #[.slice A b.length c, .slice A2 l.length c2, .int .i64 n, .string ⟨s.toArray⟩, .int .i64 er] 57)).alloc (.cells #[.slice A' b.length c', .slice A2' l.length c2', .int .i64 n, .string ⟨s.toArray⟩, .int .i64 er] 57)) := hW
  clear hW h1 h2
  go_enter Tryz.func21, Tryz.ntmps21
  go_wp2_with (first
    | (go_at_call 62; rw [← HW.out]; refine (HE.out _ HG.out).mono ?_; rintro e w3 ⟨rfl, rfl⟩; have j1 := HB1.out.cell 1; have j2 := HB2.out.cell 1)
    | (go_at_call 63; refine (HN.out _ HG.out).mono ?_; rintro e w4 ⟨rfl, g4⟩; have G4 := Lib.hid (gr_none HG.out g4); clear g4))
  go_ret
  exact ⟨rfl, G4.out⟩
end Go.Proofs.YtipankjajdpiiaaGreat
