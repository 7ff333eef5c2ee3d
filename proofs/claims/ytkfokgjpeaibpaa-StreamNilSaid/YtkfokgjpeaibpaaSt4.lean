/-
  law11: begun; the anchor.
-/
import Derived.Test.YtkfokgjpeaibpaaSt3
import Derived.Lib.Builder
namespace Go.Proofs.Ytkfokgjpeaibpaa
open Go.RowKit Go.Maps
set_option maxRecDepth 100000
set_option maxHeartbeats 400000

def sn : List UInt8 := [115]
theorem ok_sn0 : okK sn 0 := ⟨by simp [sn]; unfold maxLen; omega, WalkArith.wf_i64 (by omega)⟩
def sS : Dk := ((newD 65536).create sn).1
theorem sS_create : ((newD 65536).create sn).2 = 0 := by decide
theorem sS_pgs : sS.pgs sn = (0, 0) := by decide
set_option maxHeartbeats 4000000 in
theorem begun_any (w : World) (fr size : Nat) (hf1 : 1 ≤ fr) (hf2 : fr ≤ 4096) (h1 : 1 ≤ size) (h2 : size ≤ 240) : Calls Try.prog 8 #[.int .i64 fr, .int .i64 size] w fun e w' => ∃ d p g mb sb o c,
    e = .returned (.tuple #[.pointer (some ⟨d, 0, none⟩), .pointer (some ⟨p, 0, none⟩), .pointer (some ⟨sb, 0, none⟩)]) ∧ DI w' w.heap.size o d sS c ∧ PoR w' w.heap.size o d p g mb (pl0 fr) 0 ∧ StR w' w.heap.size p sb sn size ∧ (sb ≠ p ∧ sb ≠ g ∧ sb ≠ mb ∧ o sb = none) ∧ w.grownBy w' none := by
  have HNEW := Lib.hid (new_ok 65536 w (by omega))
  have HF := Lib.hid (And.intro hf1 hf2)
  have HSZ := Lib.hid (And.intro h1 h2)
  go_enter Try.func8, Try.ntmps8
  go_wp2_with fail
  refine HNEW.out.mono ?_
  rintro e w1 ⟨d, o, c, rfl, h1, g1⟩
  have HPN := Lib.hid (ponew_any h1 fr hf1 hf2)
  have H1 := Lib.hid h1
  have G1 := Lib.hid g1
  clear h1 g1 HNEW
  go_wp2_with fail
  refine HPN.out.mono ?_
  rintro e w2 ⟨p, g, mb, rfl, hp2, g2⟩
  have HP2 := Lib.hid hp2
  have H2 := Lib.hid (H1.out.ext g2)
  have G2 := Lib.hid (gr_none G1.out g2)
  clear hp2 g2 HPN H1 G1
  have hcr := pocreate_any H2.out HP2.out (n := sn) (by simp [sn]) (by simp [newD])
  rw [sS_create] at hcr
  have HCR := Lib.hid hcr
  clear hcr
  go_wp2_with fail
  refine HCR.out.mono ?_
  rintro e w4 ⟨rfl, o4, c4, h4, ch4, hp4⟩
  have H4 : Hid (DI w4 w.heap.size o4 d sS c4) := h4
  have HP4 := Lib.hid hp4
  have G4 : Hid (w.grownBy w4 none) := ch4.gr G2.out fun i hi => (H2.out.inb i hi).1
  have HSO := Lib.hid (sopen_any H4.out HP4.out (n := sn) (size := size) (by simp [sn]) (by rw [sS_pgs]) HSZ.out.1 HSZ.out.2)
  clear h4 hp4 ch4 HCR
  go_wp2_with fail
  refine HSO.out.mono ?_
  rintro e w5 ⟨sb, rfl, hsz, hs5, g5⟩
  have HS5 := Lib.hid hs5
  have G5 := Lib.hid g5
  have HZ := Lib.hid hsz
  clear hs5 g5 hsz
  go_wp2_with fail
  go_ret3
  have hpl := HP4.out.self.lt
  have hgl := HP4.out.fr.lt
  have hml := HP4.out.wh.lt
  have hzz := HZ.out
  refine ⟨d, p, g, mb, sb, o4, c4, rfl, H4.out.ext G5.out, HP4.out.ext G5.out, ⟨HS5.out.box, Nat.le_trans G4.out.size HS5.out.sB, HS5.out.lim⟩, ⟨by omega, by omega, by omega, ?_⟩, gr_none G4.out G5.out⟩
  cases e : o4 sb with
  | none => rfl
  | some t => exact absurd (H4.out.inb sb (by rw [e]; simp)).2 (by omega)
def skP (v : Value) : Pl := (((pl0 2).filled 0 (frN sn 0) ok_sn0).noted).put 0 (frW sn 0 [1, 2] v)
theorem skP_fr (v : Value) : (skP v).fr = [frW sn 0 [1, 2] v, fr0] := rfl
theorem skP_wh (v : Value) : (skP v).wh ⟨sn, 0, ok_sn0⟩ = some 0 := by
  show (if (⟨sn, 0, ok_sn0⟩ : PK) = pkey (frN sn 0) ok_sn0 then some 0 else none) = some 0
  exact if_pos rfl
theorem skP_pages (v : Value) : pagesN (skP v).fr sn 0 = 1 := by rw [skP_fr]; rfl
theorem skP_put (v : Value) : (skP v).put 0 { frW sn 0 [1, 2] v with used := true } = skP v := rfl
/-- the anchor's state, seen from an older world. -/
def SkQ (w0 : World) (d p g mb sb : Nat) (v : Value) (w : World) : Prop := ∃ o c, DI w w0.heap.size o d sS c ∧ PoR w w0.heap.size o d p g mb (skP v) 1 ∧ StR w w0.heap.size p sb sn 2 ∧ w0.grownBy w none
section
variable {w0 w w' : World} {d p g mb sb : Nat} {v : Value}
theorem SkQ.ext (h : SkQ w0 d p g mb sb v w) (hg : w.grownBy w' none) : SkQ w0 d p g mb sb v w' := by
  obtain ⟨o, c, h1, h2, h3, h4⟩ := h
  exact ⟨o, c, h1.ext hg, h2.ext hg, h3.ext hg, gr_none h4 hg⟩
theorem SkQ.pages (h : SkQ w0 d p g mb sb v w) : PagesIs w p sn 1 := fun wx hx => by
  obtain ⟨o, c, h1, h2, h3, h4⟩ := h.ext hx
  refine (ppages_any h1 h2 (n := sn) (by simp [sn])).mono ?_
  rintro e w' ⟨g1, ⟨he, rfl⟩ | ⟨-, rfl⟩⟩
  · rw [sS_pgs] at he; exact absurd rfl he
  · rw [sS_pgs]; show _ = Ending.returned (.tuple #[.int .i64 (pagesN (skP v).fr sn 0), _]) ∧ _; rw [skP_pages]; exact ⟨rfl, g1⟩
theorem SkQ.read {X : World → Prop} (h : SkQ w0 d p g mb sb v w) (hx0 : X w) (hX : ∀ w w', X w → Ch (po noO p g mb) w (po noO p g mb) w' → X w') (hsb : sb ≠ p ∧ sb ≠ g ∧ sb ≠ mb) : ReadIs w w0.heap.size p sb 2 sn 0 [1, 2] (fun w => SkQ w0 d p g mb sb v w ∧ X w) := fun wx hx => by
  obtain ⟨o, c, h1, h2, h3, h4⟩ := h.ext hx
  have hr := poread_hit h1 h2 (n := sn) (by simp [sn]) ok_sn0 (by rw [sS_pgs]) (by omega) (by rw [sS_pgs]; show (0 : Int) < pagesN (skP v).fr sn 0; rw [skP_pages]; omega) (i := 0) (by rw [skP_fr]; simp) (skP_wh v)
  refine hr.mono ?_
  rintro e w' ⟨u, rfl, hu, hp', ch'⟩
  have hp2 : PoR w' w0.heap.size o d p g mb (skP v) 1 := hp'
  have hs2 := h3.ch ch' (po_none_mk hsb.1 hsb.2.1 hsb.2.2 rfl)
  exact ⟨u, rfl, hu, ch'.size, hs2, ⟨o, c, h1.pool h2 ch', hp2, hs2, poGr ch' h4 h2.low⟩, hX _ _ (hX _ _ hx0 (Ch.ext hx)) ch'⟩
end
set_option maxHeartbeats 4000000 in
theorem works11_any (w : World) : Calls Try.prog 13 #[] w fun e w' => e = .returned (.bool true) ∧ w.grownBy w' none := by
  have HBG := Lib.hid (begun_any w 2 2 (by omega) (by omega) (by omega) (by omega))
  go_enter Try.func13, Try.ntmps13
  go_wp2_with fail
  refine HBG.out.mono ?_
  rintro e w1 ⟨d, p, g, mb, sb, o, c, rfl, h1, hp1, hs1, hsb, g1⟩
  have HSB := Lib.hid hsb
  have H1 := Lib.hid h1
  have HP1 := Lib.hid hp1
  have HS1 := Lib.hid hs1
  have G1 := Lib.hid g1
  clear hsb h1 hp1 hs1 g1 HBG
  have HB : Hid (OwnB (w1.alloc (.cells #[.int .u8 1, .int .u8 2] 5)) w1.heap.size (.slice (some ⟨w1.heap.size, 0, none⟩) 2 2) [1, 2]) := own_lit w1 w1.heap.size 1 2 2 #[.int .u8 1, .int .u8 2] 5 (0, 0) (.inr (by simp)) rfl (Nat.le_refl _) (by unfold maxLen; omega) (Nat.le_refl _)
  have HAD := Lib.hid (sadd_first (H1.out.ext (gr_alloc w1 (.cells #[.int .u8 1, .int .u8 2] 5) none)) (HP1.out.ext (gr_alloc w1 (.cells #[.int .u8 1, .int .u8 2] 5) none)) (HS1.out.ext (gr_alloc w1 (.cells #[.int .u8 1, .int .u8 2] 5) none)) (by simp [sn]) ok_sn0 sS_pgs (by rfl) rfl (fun _ => rfl) (by omega) HB.out.rd (by rfl) ⟨HSB.out.1, HSB.out.2.1, HSB.out.2.2.1⟩)
  go_wp2_with fail
  refine HAD.out.mono ?_
  rintro e w2 ⟨rfl, v, hp2, ch2⟩
  have HQ2 : Hid (SkQ w d p g mb sb v w2) := by
    have ga := gr_alloc w1 (.cells #[.int .u8 1, .int .u8 2] 5) none
    exact ⟨o, c, (H1.out.ext ga).pool (HP1.out.ext ga) ch2, hp2, (HS1.out.ext ga).ch ch2 (po_none_mk HSB.out.1 HSB.out.2.1 HSB.out.2.2.1 rfl), poGr ch2 (gr_none G1.out ga) HP1.out.low⟩
  have hq := HQ2.out
  obtain ⟨o2, c2, -, -, hs2, -⟩ := hq
  have HGE := Lib.hid (sget_of hs2 (m := 1) (i := 0) (b := [1, 2]) (by omega) (by decide) (by decide) HQ2.out.pages (HQ2.out.read (X := fun _ => True) trivial (fun _ _ _ _ => trivial) ⟨HSB.out.1, HSB.out.2.1, HSB.out.2.2.1⟩) (fun _ _ h hg => ⟨SkQ.ext h.1 hg, h.2⟩))
  clear hp2 ch2 hs2 HAD HB
  go_wp2_with fail
  refine HGE.out.mono ?_
  rintro e w3 ⟨u, rfl, hu, hq3, -⟩
  have HQ3 := Lib.hid hq3
  have HU : Hid (OwnB w3 w2.heap.size u [1, 2]) := hu
  obtain ⟨o3, c3, -, -, hs3, -⟩ := hq3
  have HX : Hid (∀ x x', OwnB x w2.heap.size u [1, 2] → Ch (po noO p g mb) x (po noO p g mb) x' → OwnB x' w2.heap.size u [1, 2]) := fun x x' hx hc => hc.own hx (by omega) fun k hk => by
    obtain ⟨q1, q2⟩ := Own.blk_lt hx (by omega) hk
    obtain ⟨_, _, _, hpp, _, _⟩ := HQ2.out
    have hpl := hpp.self.lt
    have hgl := hpp.fr.lt
    have hml := hpp.wh.lt
    exact po_none_mk (by omega) (by omega) (by omega) rfl
  have HLE := Lib.hid (slen_of hs3 (m := 1) (b := [1, 2]) (by omega) (by decide) HQ3.out.pages (HQ3.out.read (X := fun w => OwnB w w2.heap.size u [1, 2]) HU.out HX.out ⟨HSB.out.1, HSB.out.2.1, HSB.out.2.2.1⟩) (fun _ _ h hg => ⟨SkQ.ext h.1 hg, OwnB.ext h.2 hg⟩))
  obtain ⟨A3, c3', rfl⟩ := RdB.form (Own.rd HU.out)
  clear hu hs3 HGE
  have el : (([1, 2] : List UInt8).drop (0 % (240 / 2) * 2)).take 2 = [1, 2] := by decide
  have en : (1 - 1) * (240 / 2) + ([1, 2] : List UInt8).length / 2 = 1 := by decide
  rw [en] at HLE
  go_wp2_with fail
  refine HLE.out.mono ?_
  rintro e w4 ⟨rfl, hq4, hu4⟩
  have G4 : Hid (w.grownBy w4 none) := by obtain ⟨_, _, _, _, _, hg⟩ := hq4; exact hg
  obtain ⟨g8, o8, hA8, -, -, hc8⟩ := RdB.at_ (l := [1, 2]) (Own.rd hu4)
  obtain rfl := hA8 (by simp)
  have hc : w4.cell? ⟨g8, o8 + 1, none⟩ = some (.int .u8 2) := hc8 1 (by simp)
  clear hq4 HLE hu4 hA8 hc8
  go_wp2
  go_ret
  exact ⟨rfl, G4.out⟩
set_option maxHeartbeats 4000000 in
theorem stnil_any (k : Int) (v : Value) (b : List UInt8) (s : ByteArray) (w : World) (h : RdB w v b) :
    Calls Try.prog 4 #[.int .i64 k, v, .string s] w fun e w' => e = .returned (.bool true) ∧ w.grownBy w' none := by
  obtain ⟨A, c, rfl⟩ := h.form
  clear h
  by_cases h1 : (4096 : Int) < (b.length : Int)
  · go_enter Try.func4, Try.ntmps4
    go_wp2_with (go_at_call 13; refine (works11_any _).mono ?_; rintro e w1 ⟨rfl, g1⟩)
    go_ret
    exact ⟨rfl, g1⟩
  by_cases h2 : (4096 : Int) < (s.size : Int)
  · go_enter Try.func4, Try.ntmps4
    go_wp2_with (go_at_call 13; refine (works11_any _).mono ?_; rintro e w1 ⟨rfl, g1⟩)
    go_ret
    exact ⟨rfl, g1⟩
  go_enter Try.func4, Try.ntmps4
  go_wp2_with fail
  refine (sopen_nil _ _ _).mono ?_
  rintro e w1 ⟨rfl, rfl⟩
  go_wp2_with fail
  refine (slen_nil _).mono ?_
  rintro e w1 ⟨rfl, rfl⟩
  go_wp2_with fail
  refine (sget_nil _ _).mono ?_
  rintro e w1 ⟨rfl, rfl⟩
  go_wp2_with fail
  refine (sadd_nil _ _ _ _).mono ?_
  rintro e w1 ⟨rfl, g1⟩
  go_wp2_with fail
  refine (sset_nil _ _ _ _ _).mono ?_
  rintro e w2 ⟨rfl, g2⟩
  go_wp2_with fail
  refine (works11_any _).mono ?_
  rintro e w3 ⟨rfl, g3⟩
  go_wp2
  go_ret
  exact ⟨rfl, gr_none (gr_none g1 g2) g3⟩
end Go.Proofs.Ytkfokgjpeaibpaa
