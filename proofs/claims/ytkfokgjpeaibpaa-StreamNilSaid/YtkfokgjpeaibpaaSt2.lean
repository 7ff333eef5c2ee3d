/-
  stream: Add onto an empty file.
-/
import Derived.Test.YtkfokgjpeaibpaaSt1
import Derived.Deep.RegionHeld3
import Derived.StillTailTactics
namespace Go.Proofs.Ytkfokgjpeaibpaa
open Go.RowKit Go.Maps
set_option maxRecDepth 100000
set_option maxHeartbeats 400000

section
variable {w w' : World} {B d p g mb nm sb size : Nat} {o : Own1} {P : Pl} {S : Dk} {c : Con} {n : List UInt8}
set_option maxHeartbeats 4000000 in
theorem sturn_first (h : DI w B o d S c) (hp : PoR w B o d p g mb P nm) (hs : StR w B p sb n size) (hn : n.length ≤ 1000000000) (hok : okK n 0) (hpg : S.pgs n = (0, 0)) (hm : pagesN P.fr n 0 = 0) (hw : P.wh ⟨n, 0, hok⟩ = none) (hf : ∀ hi : 0 < P.fr.length, P.fr[0] = fr0) (hnm : nm < 1000000)
    {rv : Value} {r : List UInt8} (hr : RdB w rv r) (hrl : r.length ≤ 240) (hsb : sb ≠ p ∧ sb ≠ g ∧ sb ≠ mb) {bx : Nat} (hb : Blk w bx 27 #[rv]) :
    Calls Try.prog 32 #[.pointer (some ⟨sb, 0, none⟩), .int .i64 0, .slice none 0 0, .func (.func 31) #[] #[.pointer (some ⟨bx, 0, none⟩)]] w fun e w' => e = .returned (.int .i64 0) ∧ ∃ v, PoR w' B o d p g mb (((P.filled 0 (frN n 0) hok).noted).put 0 (frW n 0 r v)) (nm + 1) ∧ Ch (po noO p g mb) w (po noO p g mb) w' := by
  have c0 : w.cell? ⟨sb, 0, none⟩ = some (.pointer (some ⟨p, 0, none⟩)) := hs.box.cell 0
  have c1 : w.cell? ⟨sb, 1, none⟩ = some (.string ⟨n.toArray⟩) := hs.box.cell 1
  have HS := Lib.hid hs
  have HAD : Hid (∀ wx, w.grownBy wx none → Calls Try.prog 31 #[.slice none 0 0, .pointer (some ⟨bx, 0, none⟩)] wx fun e w' => ∃ v', e = .returned v' ∧ OwnB w' w.heap.size v' r ∧ wx.grownBy w' none) := fun wx hx => by
    refine (sadd1_any (B0 := w.heap.size) (l := []) (Own.nil _ _ _) (hr.ext hx) (hb.ext hx) (by simp; omega) hx.size).mono ?_
    rintro e w' ⟨v', rfl, o', g'⟩
    exact ⟨v', rfl, o', g'⟩
  have HW : Hid (∀ wx v', w.grownBy wx none → OwnB wx w.heap.size v' r → Calls Try.prog 22 #[.pointer (some ⟨p, 0, none⟩), .string ⟨n.toArray⟩, .int .i64 0, v'] wx fun e w' => e = .returned (.int .i64 0) ∧
      ∃ v, PoR w' B o d p g mb (((P.filled 0 (frN n 0) hok).noted).put 0 (frW n 0 r v)) (nm + 1) ∧ Ch (po noO p g mb) w (po noO p g mb) w') := fun wx v' hx ho => by
    have hl := hp.lim.1
    have hpl := hp.self.lt
    have hgl := hp.fr.lt
    have hml := hp.wh.lt
    refine (powrite_new (h.ext hx) (hp.ext hx) hn hok ho.rd (fun q e => by
      obtain ⟨q1, q2⟩ := Own.blk_lt ho (by omega) e
      exact ⟨q2, po_none_mk (by omega) (by omega) (by omega) rfl⟩) hrl (by rw [hpg]) (Int.le_refl _) (by rw [hpg]; show (0 : Int) ≤ pagesN P.fr n 0; rw [hm]; exact Int.le_refl _) hw (i := 0) hl (by rw [hf hl]; rfl) (fun j _ hj => absurd hj (by omega)) (by omega) (by omega)).mono ?_
    rintro e w' ⟨rfl, v, h1, h2⟩
    exact ⟨rfl, v, h1, (Ch.ext hx).trans h2⟩
  clear h hp hs hr hb hpg hm hw hf
  go_enter Try.func32, Try.ntmps32
  go_wp2_with fail
  go_region_held3 (fun w' => w'.cell? ⟨sb, 0, none⟩ = some (.pointer (some ⟨p, 0, none⟩)) ∧ w'.cell? ⟨sb, 1, none⟩ = some (.string ⟨n.toArray⟩)) (first | exact hk2 | go_keep)
    (first
      | ((go_at_call 31); refine (HAD.out _ (gr_drew _ none)).mono ?_; rintro e w2 ⟨v2, rfl, o2, g2⟩; have hk2 := (⟨(HS.out.box.ext (gr_none (gr_drew _ none) g2)).cell 0, (HS.out.box.ext (gr_none (gr_drew _ none) g2)).cell 1⟩ : _ ∧ _); have O2 := Lib.hid o2; clear o2)
      | ((go_at_call 22); refine (HW.out _ _ (gr_none (gr_drew _ none) g2) O2.out).mono ?_; rintro e w3 ⟨rfl, v3, hp3, ch3⟩; have hs3 := HS.out.ch ch3 (po_none_mk hsb.1 hsb.2.1 hsb.2.2 rfl); have hk2 := (⟨hs3.box.cell 0, hs3.box.cell 1⟩ : _ ∧ _)))
  all_goals
    go_wp2_with fail
    go_ret
    exact ⟨rfl, _, hp3, ch3⟩
set_option maxHeartbeats 4000000 in
theorem sadd_first (h : DI w B o d S c) (hp : PoR w B o d p g mb P nm) (hs : StR w B p sb n size) (hn : n.length ≤ 1000000000) (hok : okK n 0) (hpg : S.pgs n = (0, 0)) (hm : pagesN P.fr n 0 = 0) (hw : P.wh ⟨n, 0, hok⟩ = none) (hf : ∀ hi : 0 < P.fr.length, P.fr[0] = fr0) (hnm : nm < 1000000)
    {rv : Value} {r : List UInt8} (hr : RdB w rv r) (hrl : r.length = size) (hsb : sb ≠ p ∧ sb ≠ g ∧ sb ≠ mb) :
    Calls Try.prog 9 #[.pointer (some ⟨sb, 0, none⟩), rv] w fun e w' => e = .returned (.int .i64 0) ∧ ∃ v, PoR w' B o d p g mb (((P.filled 0 (frN n 0) hok).noted).put 0 (frW n 0 r v)) (nm + 1) ∧ Ch (po noO p g mb) w (po noO p g mb) w' := by
  subst hrl
  obtain ⟨Ar, cr, rfl⟩ := hr.form
  have h1 := hs.lim.1
  have h2 := hs.lim.2
  have HS := Lib.hid hs
  have HR := Lib.hid hr
  have HPG0 := Lib.hid (fun wx (hx : w.grownBy wx none) => ppages_any (h.ext hx) (hp.ext hx) hn)
  have HPG : Hid (∀ wx, w.grownBy wx none → Calls Try.prog 10 #[.pointer (some ⟨p, 0, none⟩), .string ⟨n.toArray⟩] wx fun e w' => e = .returned (.tuple #[.int .i64 0, .int .i64 0]) ∧ wx.grownBy w' none) := fun wx hx => by
    refine (HPG0.out wx hx).mono ?_
    rintro e w' ⟨g1, ⟨he, rfl⟩ | ⟨-, rfl⟩⟩
    · rw [hpg] at he; exact absurd rfl he
    · rw [hpg, show ((0 : Nat) : Int) = 0 from rfl, hm]; exact ⟨rfl, g1⟩
  clear HPG0
  have c0 : w.cell? ⟨sb, 0, none⟩ = some (.pointer (some ⟨p, 0, none⟩)) := hs.box.cell 0
  have c1 : w.cell? ⟨sb, 1, none⟩ = some (.string ⟨n.toArray⟩) := hs.box.cell 1
  have c2 : w.cell? ⟨sb, 2, none⟩ = some (.int .i64 r.length) := hs.box.cell 2
  obtain ⟨w1, hw1⟩ : ∃ w1, w1 = w.alloc (.cells #[.slice Ar r.length cr] 27) := ⟨_, rfl⟩
  have HW1 := Lib.hid hw1
  have g1 : w.grownBy w1 none := by rw [hw1]; exact gr_alloc _ _ none
  have hbx : Blk w1 w.heap.size 27 #[.slice Ar r.length cr] := by rw [hw1]; exact Blk.new _ _ _
  have G1 := Lib.hid g1
  have HBX := Lib.hid hbx
  have a0 : w1.cell? ⟨sb, 0, none⟩ = some (.pointer (some ⟨p, 0, none⟩)) := g1.cell c0 (by simp)
  have a1 : w1.cell? ⟨sb, 1, none⟩ = some (.string ⟨n.toArray⟩) := g1.cell c1 (by simp)
  have a2 : w1.cell? ⟨sb, 2, none⟩ = some (.int .i64 r.length) := g1.cell c2 (by simp)
  have a3 : w1.cell? ⟨w.heap.size, 0, none⟩ = some (.slice Ar r.length cr) := hbx.cell 0
  have hne : ((r.length : Int) != (r.length : Int)) = false := by simp
  have HP := Lib.hid hp
  have H := Lib.hid h
  have HT : Hid (∀ wx, w1.grownBy wx none → Calls Try.prog 32 #[.pointer (some ⟨sb, 0, none⟩), .int .i64 0, .slice none 0 0, .func (.func 31) #[] #[.pointer (some ⟨w.heap.size, 0, none⟩)]] wx fun e w' => e = .returned (.int .i64 0) ∧ ∃ v, PoR w' B o d p g mb (((P.filled 0 (frN n 0) hok).noted).put 0 (frW n 0 r v)) (nm + 1) ∧ Ch (po noO p g mb) w (po noO p g mb) w') := fun wx hx => by
    have g0 := gr_none g1 hx
    refine (sturn_first (h.ext g0) (hp.ext g0) (hs.ext g0) hn hok hpg hm hw hf hnm (hr.ext g0) h2 hsb (hbx.ext hx)).mono ?_
    rintro e w' ⟨he, v, hp', ch'⟩
    exact ⟨he, v, hp', (Ch.ext g0).trans ch'⟩
  clear hw1 g1 hbx c0 c1 c2 hs hr hp h hm hpg hw hf
  go_enter Try.func9, Try.ntmps9
  go_wp2_with fail
  rw [← HW1.out]
  go_quiet (fail)
  go_wp2_with fail
  go_region_held3 (fun w' => w'.cell? ⟨sb, 0, none⟩ = some (.pointer (some ⟨p, 0, none⟩)) ∧ w'.cell? ⟨sb, 1, none⟩ = some (.string ⟨n.toArray⟩)) (first | exact hk2 | go_keep) (first | (go_at_call 10; refine (HPG.out _ (gr_none G1.out (gr_none (gr_drewN _ _ none) (gr_drew _ none)))).mono ?_; rintro e w2 ⟨rfl, g2⟩; have hs2 := HS.out.ext (gr_none (gr_none G1.out (gr_none (gr_drewN _ _ none) (gr_drew _ none))) g2); have hk2 := (⟨hs2.box.cell 0, hs2.box.cell 1⟩ : _ ∧ _)))
  all_goals
    have g12 : w1.grownBy w2 none := gr_none (gr_none (gr_drewN _ _ none) (gr_drew _ none)) g2
    have G12 := Lib.hid g12
    clear g2 g12
    go_wp2_with fail
    refine (HT.out _ G12.out).mono ?_
    rintro e w3 ⟨rfl, v3, hp3, ch3⟩
    have HP3 := Lib.hid hp3
    have CH3 := Lib.hid ch3
    clear hp3 ch3
    go_wp2_with fail
    go_ret
    exact ⟨rfl, _, HP3.out, CH3.out⟩
end
end Go.Proofs.Ytkfokgjpeaibpaa
