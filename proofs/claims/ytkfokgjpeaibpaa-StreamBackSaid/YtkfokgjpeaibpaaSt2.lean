/-
  The anchor of law10: a pool works.
-/
import Derived.Test.YtkfokgjpeaibpaaPo5
import Derived.Test.YtkfokgjpeaibpaaInt
import Derived.Lib.Builder
import Derived.Deep.RegionHeld3
import Derived.StillTailTactics
namespace Go.Proofs.Ytkfokgjpeaibpaa
open Go.RowKit Go.Maps
set_option maxRecDepth 100000
set_option maxHeartbeats 400000

theorem neq_disk (d : Nat) (w : World) : (binOp .neq 22 (.pointer (some ⟨d, 0, none⟩)) (.pointer (some ⟨d, 0, none⟩))).run Try.prog w = .ok (.bool false) w := by
  obtain ⟨j, hj⟩ := Option.isSome_iff_exists.1 (by kernel_rfl : (Try.prog.info? 85).isSome = true)
  exact Lib.run_neq_ptr_same w ⟨d, 0, none⟩ Try.underlying22 hj
theorem ok_an0 : okK an 0 := ⟨by simp [an]; unfold maxLen; omega, WalkArith.wf_i64 (by omega)⟩
def wkS : Dk := ((newD 100).create an).1
theorem wkS_create : ((newD 100).create an).2 = 0 := by decide
theorem wkS_pgs : wkS.pgs an = (0, 0) := by decide
theorem wkS_fs : wkS.fs.length = 1 := by decide
def wkP (v : Value) : Pl := (((pl0 2).filled 0 (frN an 0) ok_an0).noted).put 0 (frW an 0 [7] v)
theorem wkP_fr (v : Value) : (wkP v).fr = [frW an 0 [7] v, fr0] := rfl
theorem wkP_wh (v : Value) : (wkP v).wh ⟨an, 0, ok_an0⟩ = some 0 := by
  show (if (⟨an, 0, ok_an0⟩ : PK) = pkey (frN an 0) ok_an0 then some 0 else none) = some 0
  exact if_pos rfl
theorem wkP_pages (v : Value) : pagesN (wkP v).fr an 0 = 1 := by rw [wkP_fr]; rfl
set_option maxHeartbeats 4000000 in
theorem works10_any (w : World) : Calls Try.prog 28 #[] w fun e w' => e = .returned (.bool true) ∧ w.grownBy w' none := by
  have HNEW := Lib.hid (new_ok 100 w (by omega))
  go_enter Try.func28, Try.ntmps28
  go_wp2_with fail
  refine HNEW.out.mono ?_
  rintro e w1 ⟨d, o, c, rfl, h1, g1⟩
  have HPN := Lib.hid (ponew_any h1 2 (by omega) (by omega))
  have H1 := Lib.hid h1
  have G1 := Lib.hid g1
  clear h1 g1 HNEW
  go_wp2_with fail
  refine HPN.out.mono ?_
  rintro e w2 ⟨p, g, mb, rfl, hp2, g2⟩
  have HP2 := Lib.hid hp2
  have H2 := Lib.hid (H1.out.ext g2)
  have G2 := Lib.hid (gr_none G1.out g2)
  have HPD := Lib.hid (pdisk_any hp2)
  have HPF := Lib.hid (pframes_any hp2)
  have el : (pl0 2).fr.length = 2 := rfl
  rw [el] at HPF
  clear hp2 g2 HPN H1 G1 el
  have hnq := neq_disk d
  go_wp2_with (first
    | (go_at_call 48; refine HPD.out.mono ?_; rintro e w3 ⟨rfl, rfl⟩)
    | (go_at_call 49; refine HPF.out.mono ?_; rintro e w3 ⟨rfl, rfl⟩))
  have hcr := pocreate_any H2.out HP2.out (n := an) (by simp [an]) (by simp [newD])
  rw [wkS_create] at hcr
  have HCR := Lib.hid hcr
  clear hcr HPD HPF hnq
  refine HCR.out.mono ?_
  rintro e w4 ⟨rfl, o4, c4, h4, ch4, hp4⟩
  have H4 : Hid (DI w4 w.heap.size o4 d wkS c4) := h4
  have HP4 := Lib.hid hp4
  have G4 : Hid (w.grownBy w4 none) := ch4.gr G2.out fun i hi => (H2.out.inb i hi).1
  clear h4 hp4 ch4 HCR
  have HB : Hid (OwnB (w4.alloc (.cells #[.int .u8 7] 5)) w4.heap.size (.slice (some ⟨w4.heap.size, 0, none⟩) 1 1) [7]) := own_lit w4 w4.heap.size 1 1 1 #[.int .u8 7] 5 (0, 0) (.inr (by simp)) rfl (Nat.le_refl _) (by unfold maxLen; omega) (Nat.le_refl _)
  have hpl := HP4.out.self.lt
  have hgl := HP4.out.fr.lt
  have hml := HP4.out.wh.lt
  have HWR := Lib.hid (powrite_new (H4.out.ext (gr_alloc w4 (.cells #[.int .u8 7] 5) none)) (HP4.out.ext (gr_alloc w4 (.cells #[.int .u8 7] 5) none)) (n := an) (by simp [an]) ok_an0 HB.out.rd
    (fun q e => by
      obtain ⟨q1, q2⟩ := Own.blk_lt HB.out (by omega) e
      exact ⟨q2, po_none_mk (by omega) (by omega) (by omega) rfl⟩) (by simp) (by rw [wkS_pgs]) (by omega) (by rw [wkS_pgs]; show (0 : Int) ≤ pagesN [fr0, fr0] an 0; decide) rfl (i := 0) (by show 0 < 2; omega) rfl (fun j _ hj => absurd hj (by omega)) (by omega) (by omega))
  clear hpl hgl hml
  go_wp2_with fail
  refine HWR.out.mono ?_
  rintro e w5 ⟨rfl, v5, hp5, ch5⟩
  have HP5 : Hid (PoR w5 w.heap.size o4 d p g mb (wkP v5) 1) := hp5
  have H5 := Lib.hid ((H4.out.ext (gr_alloc w4 (.cells #[.int .u8 7] 5) none)).pool (HP4.out.ext (gr_alloc w4 (.cells #[.int .u8 7] 5) none)) ch5)
  have G5 : Hid (w.grownBy w5 none) := poGr ch5 (gr_none G4.out (gr_alloc _ _ none)) HP4.out.low
  have hrd := poread_hit H5.out HP5.out (n := an) (by simp [an]) ok_an0 (by rw [wkS_pgs]) (by omega) (by rw [wkS_pgs]; show (0 : Int) < pagesN (wkP v5).fr an 0; rw [wkP_pages]; omega) (i := 0) (by rw [wkP_fr]; simp) (wkP_wh v5)
  have eb : (wkP v5).fr[0]'(by rw [wkP_fr]; simp) = frW an 0 [7] v5 := rfl
  rw [eb] at hrd
  have HRD := Lib.hid hrd
  clear hp5 ch5 HWR HB hrd eb
  go_wp2_with fail
  refine HRD.out.mono ?_
  rintro e w6 ⟨v6, rfl, b6, hp6, ch6⟩
  have HHE := Lib.hid (held_any hp6)
  have G6 : Hid (w.grownBy w6 none) := poGr ch6 G5.out HP5.out.low
  have e1 : heldN Fr.full ((wkP v5).put 0 { frW an 0 [7] v5 with used := true }).fr = 1 := rfl
  have e2 : heldN Fr.dirty ((wkP v5).put 0 { frW an 0 [7] v5 with used := true }).fr = 1 := rfl
  rw [e1, e2] at HHE
  have B6 := Lib.hid b6.rd
  have b6' : RdB w6 v6 (frW an 0 [7] v5).b := b6.rd
  obtain ⟨A6, c6, rfl⟩ := RdB.form b6'
  clear hp6 ch6 b6 b6' e1 e2 HRD HP5 H5
  go_wp2_with fail
  refine HHE.out.mono ?_
  rintro e w7 ⟨rfl, g7⟩
  obtain ⟨g8, o8, hA8, -, -, hc8⟩ := RdB.at_ (l := [7]) (B6.out.ext g7)
  obtain rfl := hA8 (by simp)
  have hc : w7.cell? ⟨g8, o8, none⟩ = some (.int .u8 7) := hc8 0 (by simp)
  have G7 := Lib.hid (gr_none G6.out g7)
  have el : (frW an 0 [7] v5).b.length = 1 := rfl
  rw [el]
  clear g7 hA8 hc8 B6 HHE el
  go_wp2
  go_ret
  exact ⟨rfl, G7.out⟩
end Go.Proofs.Ytkfokgjpeaibpaa

/- stream: no stream; Open; per; what is put behind. -/
namespace Go.Proofs.Ytkfokgjpeaibpaa
open Go.RowKit Go.Maps
set_option maxRecDepth 100000
set_option maxHeartbeats 400000

theorem sopen_nil (w : World) (s : ByteArray) (k : Int) : Calls Try.prog 14 #[.pointer none, .string s, .int .i64 k] w fun e w' => e = .returned (.tuple #[.pointer none, .int .i64 2]) ∧ w = w' := by
  go_enter Try.func14, Try.ntmps14
  go_wp2
  go_ret2
  exact ⟨rfl, rfl⟩
theorem slen_nil (w : World) : Calls Try.prog 15 #[.pointer none] w fun e w' => e = .returned (.tuple #[.int .i64 0, .int .i64 2]) ∧ w = w' := by
  go_enter Try.func15, Try.ntmps15
  go_wp2
  go_ret2
  exact ⟨rfl, rfl⟩
theorem sget_nil (w : World) (k : Int) : Calls Try.prog 16 #[.pointer none, .int .i64 k] w fun e w' => e = .returned (.tuple #[.slice none 0 0, .int .i64 2]) ∧ w = w' := by
  go_enter Try.func16, Try.ntmps16
  go_wp2
  go_ret2
  exact ⟨rfl, rfl⟩
theorem sadd_nil (w : World) (A : Option Addr) (n c : Nat) : Calls Try.prog 9 #[.pointer none, .slice A n c] w fun e w' => e = .returned (.int .i64 2) ∧ w.grownBy w' none := by
  go_enter Try.func9, Try.ntmps9
  go_wp2
  go_ret
  exact ⟨rfl, gr_alloc _ _ _⟩
theorem sset_nil (w : World) (k : Int) (A : Option Addr) (n c : Nat) : Calls Try.prog 17 #[.pointer none, .int .i64 k, .slice A n c] w fun e w' => e = .returned (.int .i64 2) ∧ w.grownBy w' none := by
  go_enter Try.func17, Try.ntmps17
  go_wp2
  go_ret
  exact ⟨rfl, gr_alloc _ _ _⟩
/-- a stream in memory. -/
structure StR (w : World) (B p sb : Nat) (n : List UInt8) (size : Nat) : Prop where
  box : Blk w sb 65 #[.pointer (some ⟨p, 0, none⟩), .string ⟨n.toArray⟩, .int .i64 size]
  sB : B ≤ sb
  lim : 1 ≤ size ∧ size ≤ 240
section
variable {w w' : World} {B d p g mb nm sb size : Nat} {o : Own1} {P : Pl} {S : Dk} {c : Con} {n : List UInt8}
theorem StR.ext (h : StR w B p sb n size) (hg : w.grownBy w' none) : StR w' B p sb n size := ⟨h.box.ext hg, h.sB, h.lim⟩
theorem StR.ch {o1 o2 : Own1} (h : StR w B p sb n size) (hc : Ch o1 w o2 w') (ho : o1 sb = none) : StR w' B p sb n size := ⟨hc.blk h.box ho, h.sB, h.lim⟩
theorem sper_any (h : StR w B p sb n size) : Calls Try.prog 36 #[.pointer (some ⟨sb, 0, none⟩)] w fun e w' => e = .returned (.int .i64 (240 / size : Nat)) ∧ w = w' := by
  have c2 : w.cell? ⟨sb, 2, none⟩ = some (.int .i64 size) := h.box.cell 2
  have h1 := h.lim.1
  have h2 := h.lim.2
  have hne : ((size : Int) == 0) = false := by rw [beq_eq_false_iff_ne]; omega
  have hne2 : ¬ ((size : Int) = 0) := by omega
  clear h
  go_enter Try.func36, Try.ntmps36
  go_wp2
  go_ret
  exact ⟨by congr 2, rfl⟩
theorem sopen_any (h : DI w B o d S c) (hp : PoR w B o d p g mb P nm) (hn : n.length ≤ 1000000000) (hpg : (S.pgs n).2 = 0) (h1 : 1 ≤ size) (h2 : size ≤ 240) :
    Calls Try.prog 14 #[.pointer (some ⟨p, 0, none⟩), .string ⟨n.toArray⟩, .int .i64 size] w fun e w' => ∃ sb, e = .returned (.tuple #[.pointer (some ⟨sb, 0, none⟩), .int .i64 0]) ∧ w.heap.size ≤ sb ∧ StR w' w.heap.size p sb n size ∧ w.grownBy w' none := by
  have HPG := Lib.hid (ppages_any h hp hn)
  have HE := Lib.hid hpg
  have d1 : decide ((size : Int) < 1) = false := by simp; omega
  have d2 : decide ((240 : Int) < (size : Int)) = false := by simp; omega
  obtain ⟨m, hm⟩ : ∃ m, m = pagesN P.fr n (S.pgs n).1 := ⟨_, rfl⟩
  rw [← hm] at HPG
  clear h hp hpg hm
  go_enter Try.func14, Try.ntmps14
  go_wp2_with fail
  refine HPG.out.mono ?_
  rintro e w1 ⟨g1, ⟨he, rfl⟩ | ⟨-, rfl⟩⟩
  · exact absurd HE.out he
  have G1 := Lib.hid g1
  clear g1 HPG
  go_wp2
  go_ret2
  exact ⟨_, rfl, G1.out.size, ⟨Blk.new _ _ _, G1.out.size, h1, h2⟩, gr_none G1.out (gr_alloc _ _ _)⟩
/-- what is put behind a page's bytes. -/
theorem sadd1_any {B0 : Nat} {v : Value} {l : List UInt8} {rv : Value} {r : List UInt8} {bx : Nat} (hv : OwnB w B0 v l) (hr : RdB w rv r) (hb : Blk w bx 27 #[rv]) (hn : l.length + r.length ≤ 1000000) (hB : B0 ≤ w.heap.size) :
    Calls Try.prog 31 #[v, .pointer (some ⟨bx, 0, none⟩)] w fun e w' => ∃ v', e = .returned v' ∧ OwnB w' B0 v' (l ++ r) ∧ w.grownBy w' v.ownBlock := by
  obtain ⟨A, c, rfl⟩ := RdB.form (Own.rd hv)
  obtain ⟨A2, c2, rfl⟩ := hr.form
  have c0 : w.cell? ⟨bx, 0, none⟩ = some (.slice A2 r.length c2) := hb.cell 0
  have HV := Lib.hid hv
  have HR := Lib.hid hr
  clear hv hr hb
  go_enter Try.func31, Try.ntmps31
  go_wp2_with (at_builtin; refine wp_appB rfl (.tmp 4) (.tmp 5) rfl rfl HV.out rfl HR.out (by omega) hB ?_; intro v6 w6 h6 g6 a6)
  go_ret
  exact ⟨_, rfl, h6, g6⟩
end
end Go.Proofs.Ytkfokgjpeaibpaa

/- stream: Add onto an empty file. -/
namespace Go.Proofs.Ytkfokgjpeaibpaa
open Go.RowKit Go.Maps
set_option maxRecDepth 100000
set_option maxHeartbeats 400000

section
variable {w w' : World} {B d p g mb nm sb size : Nat} {o : Own1} {P : Pl} {S : Dk} {c : Con} {n : List UInt8}
set_option maxHeartbeats 4000000 in
theorem sturn_first (h : DI w B o d S c) (hp : PoR w B o d p g mb P nm) (hs : StR w B p sb n size) (hn : n.length ≤ 1000000000) (hok : okK n 0) (hpg : S.pgs n = (0, 0)) (hm : pagesN P.fr n 0 = 0) (hw : P.wh ⟨n, 0, hok⟩ = none) (hf : ∀ hi : 0 < P.fr.length, P.fr[0] = fr0) (hnm : nm < 1000000)
    {rv : Value} {r : List UInt8} (hr : RdB w rv r) (hrl : r.length ≤ 240) (hsb : sb ≠ p ∧ sb ≠ g ∧ sb ≠ mb) {bx : Nat} (hb : Blk w bx 27 #[rv]) :
    Calls Try.prog 32 #[.pointer (some ⟨sb, 0, none⟩), .int .i64 0, .slice none 0 0, .func (.func 31) #[] #[.pointer (some ⟨bx, 0, none⟩)]] w fun e w' => e = .returned (.int .i64 0) ∧ ∃ v, PoR w' B o d p g mb (((P.filled 0 (frN n 0) hok).noted).put 0 (frW n 0 r v)) (nm + 1) ∧ Ch (po noO p g mb) w (po noO p g mb) w' := by
  have c0 : w.cell? ⟨sb, 0, none⟩ = some (.pointer (some ⟨p, 0, none⟩)) := hs.box.cell 0
  have c1 : w.cell? ⟨sb, 1, none⟩ = some (.string ⟨n.toArray⟩) := hs.box.cell 1
  have HS := Lib.hid hs
  have HAD : Hid (∀ wx, w.grownBy wx none → Calls Try.prog 31 #[.slice none 0 0, .pointer (some ⟨bx, 0, none⟩)] wx fun e w' => ∃ v', e = .returned v' ∧ OwnB w' w.heap.size v' r ∧ wx.grownBy w' none) := fun wx hx => by
    refine (sadd1_any (B0 := w.heap.size) (l := []) (Own.nil _ _ _) (hr.ext hx) (hb.ext hx) (by simp; omega) hx.size).mono ?_
    rintro e w' ⟨v', rfl, o', g'⟩
    exact ⟨v', rfl, o', g'⟩
  have HW : Hid (∀ wx v', w.grownBy wx none → OwnB wx w.heap.size v' r → Calls Try.prog 22 #[.pointer (some ⟨p, 0, none⟩), .string ⟨n.toArray⟩, .int .i64 0, v'] wx fun e w' => e = .returned (.int .i64 0) ∧
      ∃ v, PoR w' B o d p g mb (((P.filled 0 (frN n 0) hok).noted).put 0 (frW n 0 r v)) (nm + 1) ∧ Ch (po noO p g mb) w (po noO p g mb) w') := fun wx v' hx ho => by
    have hl := hp.lim.1
    have hpl := hp.self.lt
    have hgl := hp.fr.lt
    have hml := hp.wh.lt
    refine (powrite_new (h.ext hx) (hp.ext hx) hn hok ho.rd (fun q e => by
      obtain ⟨q1, q2⟩ := Own.blk_lt ho (by omega) e
      exact ⟨q2, po_none_mk (by omega) (by omega) (by omega) rfl⟩) hrl (by rw [hpg]) (Int.le_refl _) (by rw [hpg]; show (0 : Int) ≤ pagesN P.fr n 0; rw [hm]; exact Int.le_refl _) hw (i := 0) hl (by rw [hf hl]; rfl) (fun j _ hj => absurd hj (by omega)) (by omega) (by omega)).mono ?_
    rintro e w' ⟨rfl, v, h1, h2⟩
    exact ⟨rfl, v, h1, (Ch.ext hx).trans h2⟩
  clear h hp hs hr hb hpg hm hw hf
  go_enter Try.func32, Try.ntmps32
  go_wp2_with fail
  go_region_held3 (fun w' => w'.cell? ⟨sb, 0, none⟩ = some (.pointer (some ⟨p, 0, none⟩)) ∧ w'.cell? ⟨sb, 1, none⟩ = some (.string ⟨n.toArray⟩)) (first | exact hk2 | go_keep)
    (first
      | ((go_at_call 31); refine (HAD.out _ (gr_drew _ none)).mono ?_; rintro e w2 ⟨v2, rfl, o2, g2⟩; have hk2 := (⟨(HS.out.box.ext (gr_none (gr_drew _ none) g2)).cell 0, (HS.out.box.ext (gr_none (gr_drew _ none) g2)).cell 1⟩ : _ ∧ _); have O2 := Lib.hid o2; clear o2)
      | ((go_at_call 22); refine (HW.out _ _ (gr_none (gr_drew _ none) g2) O2.out).mono ?_; rintro e w3 ⟨rfl, v3, hp3, ch3⟩; have hs3 := HS.out.ch ch3 (po_none_mk hsb.1 hsb.2.1 hsb.2.2 rfl); have hk2 := (⟨hs3.box.cell 0, hs3.box.cell 1⟩ : _ ∧ _)))
  all_goals
    go_wp2_with fail
    go_ret
    exact ⟨rfl, _, hp3, ch3⟩
set_option maxHeartbeats 4000000 in
theorem sadd_first (h : DI w B o d S c) (hp : PoR w B o d p g mb P nm) (hs : StR w B p sb n size) (hn : n.length ≤ 1000000000) (hok : okK n 0) (hpg : S.pgs n = (0, 0)) (hm : pagesN P.fr n 0 = 0) (hw : P.wh ⟨n, 0, hok⟩ = none) (hf : ∀ hi : 0 < P.fr.length, P.fr[0] = fr0) (hnm : nm < 1000000)
    {rv : Value} {r : List UInt8} (hr : RdB w rv r) (hrl : r.length = size) (hsb : sb ≠ p ∧ sb ≠ g ∧ sb ≠ mb) :
    Calls Try.prog 9 #[.pointer (some ⟨sb, 0, none⟩), rv] w fun e w' => e = .returned (.int .i64 0) ∧ ∃ v, PoR w' B o d p g mb (((P.filled 0 (frN n 0) hok).noted).put 0 (frW n 0 r v)) (nm + 1) ∧ Ch (po noO p g mb) w (po noO p g mb) w' := by
  subst hrl
  obtain ⟨Ar, cr, rfl⟩ := hr.form
  have h1 := hs.lim.1
  have h2 := hs.lim.2
  have HS := Lib.hid hs
  have HR := Lib.hid hr
  have HPG0 := Lib.hid (fun wx (hx : w.grownBy wx none) => ppages_any (h.ext hx) (hp.ext hx) hn)
  have HPG : Hid (∀ wx, w.grownBy wx none → Calls Try.prog 10 #[.pointer (some ⟨p, 0, none⟩), .string ⟨n.toArray⟩] wx fun e w' => e = .returned (.tuple #[.int .i64 0, .int .i64 0]) ∧ wx.grownBy w' none) := fun wx hx => by
    refine (HPG0.out wx hx).mono ?_
    rintro e w' ⟨g1, ⟨he, rfl⟩ | ⟨-, rfl⟩⟩
    · rw [hpg] at he; exact absurd rfl he
    · rw [hpg, show ((0 : Nat) : Int) = 0 from rfl, hm]; exact ⟨rfl, g1⟩
  clear HPG0
  have c0 : w.cell? ⟨sb, 0, none⟩ = some (.pointer (some ⟨p, 0, none⟩)) := hs.box.cell 0
  have c1 : w.cell? ⟨sb, 1, none⟩ = some (.string ⟨n.toArray⟩) := hs.box.cell 1
  have c2 : w.cell? ⟨sb, 2, none⟩ = some (.int .i64 r.length) := hs.box.cell 2
  obtain ⟨w1, hw1⟩ : ∃ w1, w1 = w.alloc (.cells #[.slice Ar r.length cr] 27) := ⟨_, rfl⟩
  have HW1 := Lib.hid hw1
  have g1 : w.grownBy w1 none := by rw [hw1]; exact gr_alloc _ _ none
  have hbx : Blk w1 w.heap.size 27 #[.slice Ar r.length cr] := by rw [hw1]; exact Blk.new _ _ _
  have G1 := Lib.hid g1
  have HBX := Lib.hid hbx
  have a0 : w1.cell? ⟨sb, 0, none⟩ = some (.pointer (some ⟨p, 0, none⟩)) := g1.cell c0 (by simp)
  have a1 : w1.cell? ⟨sb, 1, none⟩ = some (.string ⟨n.toArray⟩) := g1.cell c1 (by simp)
  have a2 : w1.cell? ⟨sb, 2, none⟩ = some (.int .i64 r.length) := g1.cell c2 (by simp)
  have a3 : w1.cell? ⟨w.heap.size, 0, none⟩ = some (.slice Ar r.length cr) := hbx.cell 0
  have hne : ((r.length : Int) != (r.length : Int)) = false := by simp
  have HP := Lib.hid hp
  have H := Lib.hid h
  have HT : Hid (∀ wx, w1.grownBy wx none → Calls Try.prog 32 #[.pointer (some ⟨sb, 0, none⟩), .int .i64 0, .slice none 0 0, .func (.func 31) #[] #[.pointer (some ⟨w.heap.size, 0, none⟩)]] wx fun e w' => e = .returned (.int .i64 0) ∧ ∃ v, PoR w' B o d p g mb (((P.filled 0 (frN n 0) hok).noted).put 0 (frW n 0 r v)) (nm + 1) ∧ Ch (po noO p g mb) w (po noO p g mb) w') := fun wx hx => by
    have g0 := gr_none g1 hx
    refine (sturn_first (h.ext g0) (hp.ext g0) (hs.ext g0) hn hok hpg hm hw hf hnm (hr.ext g0) h2 hsb (hbx.ext hx)).mono ?_
    rintro e w' ⟨he, v, hp', ch'⟩
    exact ⟨he, v, hp', (Ch.ext g0).trans ch'⟩
  clear hw1 g1 hbx c0 c1 c2 hs hr hp h hm hpg hw hf
  go_enter Try.func9, Try.ntmps9
  go_wp2_with fail
  rw [← HW1.out]
  go_quiet (fail)
  go_wp2_with fail
  go_region_held3 (fun w' => w'.cell? ⟨sb, 0, none⟩ = some (.pointer (some ⟨p, 0, none⟩)) ∧ w'.cell? ⟨sb, 1, none⟩ = some (.string ⟨n.toArray⟩)) (first | exact hk2 | go_keep) (first | (go_at_call 10; refine (HPG.out _ (gr_none G1.out (gr_none (gr_drewN _ _ none) (gr_drew _ none)))).mono ?_; rintro e w2 ⟨rfl, g2⟩; have hs2 := HS.out.ext (gr_none (gr_none G1.out (gr_none (gr_drewN _ _ none) (gr_drew _ none))) g2); have hk2 := (⟨hs2.box.cell 0, hs2.box.cell 1⟩ : _ ∧ _)))
  all_goals
    have g12 : w1.grownBy w2 none := gr_none (gr_none (gr_drewN _ _ none) (gr_drew _ none)) g2
    have G12 := Lib.hid g12
    clear g2 g12
    go_wp2_with fail
    refine (HT.out _ G12.out).mono ?_
    rintro e w3 ⟨rfl, v3, hp3, ch3⟩
    have HP3 := Lib.hid hp3
    have CH3 := Lib.hid ch3
    clear hp3 ch3
    go_wp2_with fail
    go_ret
    exact ⟨rfl, _, HP3.out, CH3.out⟩
end
end Go.Proofs.Ytkfokgjpeaibpaa
