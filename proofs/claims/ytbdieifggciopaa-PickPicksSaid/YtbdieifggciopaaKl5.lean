/-
  PickPicks: the law's walk.
-/
import Derived.Test.YtbdieifggciopaaKq
import Derived.Test.YtbdieifggciopaaKx
namespace Go.Proofs.Ytbdieifggciopaa
open Go.RowKit
set_option maxRecDepth 100000
set_option maxHeartbeats 400000

theorem own_at {w : World} {B g off n c : Nat} {xs : List Value} (h : Own w B 1 (.slice (some ⟨g, off, none⟩) n c) n xs) {k : Nat} (hk : k < n) :
    (∃ z, w.cell? ⟨g, off + k, none⟩ = some z) ∧ w.frozen? ⟨g, off + k, none⟩ = false := by
  obtain ⟨hl, A', c', g', off', e, hn, hc, hA0, hA, hb, hx, hf⟩ := h
  cases e
  cases hA (by omega)
  exact ⟨Option.isSome_iff_exists.1 (hf k (by omega)).1, (hf k (by omega)).2⟩
theorem own_addr {w : World} {B n c : Nat} {A : Option Addr} {xs : List Value} (h : Own w B 1 (.slice A n c) n xs) (h0 : 0 < n) : ∃ g off, A = some ⟨g, off, none⟩ ∧ B ≤ g := by
  obtain ⟨hl, A', c', g', off', e, hn, hc, hA0, hA, hb, hx, hf⟩ := h
  cases e
  have := hA (by omega)
  exact ⟨g', off', this, hb _ this⟩
set_option maxHeartbeats 16000000 in
theorem pickPicks_any (v : Value) (l : List Cd) (w : World) (h : RdC w v l) :
    Calls Try.prog 3 #[v] w fun e w' => e = .returned (.bool true) ∧ w.grownBy w' none := by
  have hmax : l.length ≤ maxLen := by obtain ⟨_, _, _, _, _, _, h1, h2, _⟩ := h.1; omega
  unfold maxLen at hmax
  have HW := Lib.hid works_any
  have HLG := Lib.hid (large_any v l w h)
  have HL := Lib.hid h
  obtain ⟨A, c, rfl⟩ := h.form
  clear h
  go_enter Try.func3, Try.ntmps3
  go_wp2_with fail
  refine HLG.out.mono ?_
  rintro e w1 ⟨⟨b, rfl, hb⟩, g1⟩
  have G1 := Lib.hid g1
  have HB := Lib.hid hb
  clear hb g1 HLG
  cases b
  · have HSM := Lib.hid (HB.out (by first | exact trivial | rfl))
    have hn100 : l.length ≤ 1000 := by have := HSM.out.1; omega
    have HNL : Hid (∀ x ∈ l, x.d.near.length ≤ 5000) := fun x hx => by have := HSM.out.2 x hx; omega
    have HCP := Lib.hid (copied_any _ l w1 (HL.out.ext G1.out) HSM.out)
    clear HB
    go_wp2_with fail
    refine HCP.out.mono ?_
    rintro e w2 ⟨⟨u2, m, rfl, ho2, hm2⟩, g2⟩
    have G2 := Lib.hid (gr_none G1.out g2)
    have HM := Lib.hid hm2
    have HR2 := Lib.hid ho2.rd
    have hm1 : m.length ≤ 1000 := by have := congrArg List.length hm2; simp at this; omega
    have HNM : Hid (∀ x ∈ m, x.d.near.length ≤ 5000) := fun x hx => by
      have h1 : x.d ∈ l.map Cd.d := by rw [← hm2]; exact List.mem_map.2 ⟨x, hx, rfl⟩
      obtain ⟨y, hy, e2⟩ := List.mem_map.1 h1
      rw [← e2]
      exact HNL.out y hy
    obtain ⟨A2, c2, rfl⟩ := HR2.out.form
    have HP1 := Lib.hid (pick_any _ m w2 HR2.out (by omega) HNM.out)
    have HP2 := Lib.hid fun (wx : World) (hx : w.grownBy wx none) => refPick_any _ l wx (HL.out.ext hx) hn100 HNL.out
    have HSA := Lib.hid fun (wx : World) (hx : w2.grownBy wx none) => same_any _ _ m l wx (HR2.out.ext hx) (HL.out.ext (gr_none G2.out hx)) (by omega) HNM.out HM.out
    clear ho2 hm2 g2 HCP
    go_wp2_with fail
    refine HP1.out.mono ?_
    rintro e w3 ⟨⟨u3, out1, rfl, ho3, hp3⟩, g3⟩
    rw [HM.out] at hp3
    have G3 := Lib.hid g3
    have HO3 := Lib.hid ho3
    have HK3 := Lib.hid hp3
    have hz3 := g3.size
    have HP3 := Lib.hid (HP2.out w3 (gr_none G2.out g3))
    obtain ⟨A3, c3, rfl⟩ := RdU.form (Own.rd HO3.out)
    clear ho3 hp3 g3 HP1 HP2
    go_wp2_with fail
    refine HP3.out.mono ?_
    rintro e w4 ⟨⟨u4, out2, rfl, ho4, hp4⟩, g4⟩
    rw [hp4.same HK3.out] at ho4
    have hol : out1.length ≤ 1000 := by have h1 := HK3.out.len; have h2 := onceD_len (l.map Cd.d); simp at h2; omega
    have HQ4 := Lib.hid (eqU_any _ _ out1 out1 w4 (Rd.ext (Own.rd HO3.out) g4) (Own.rd ho4) (by omega) (by omega))
    have G4 := Lib.hid (gr_none G3.out g4)
    have HO4 := Lib.hid (Own.ext HO3.out g4)
    obtain ⟨A5, c5, rfl⟩ := RdU.form (Own.rd ho4)
    clear ho4 hp4 g4 HP3
    go_wp2_with fail
    refine HQ4.out.mono ?_
    rintro e w5 ⟨⟨b, rfl, hb⟩, g5⟩
    obtain rfl : b = true := by first | exact hb.2 rfl | exact hb.2 trivial
    have G5 := Lib.hid (gr_none G4.out g5)
    have HO5 := Lib.hid (Own.ext HO4.out g5)
    clear hb g5
    go_wp2_with fail
    refine (HSA.out _ G5.out).mono ?_
    rintro e w6 ⟨rfl, g6⟩
    have G6 := Lib.hid (gr_none G5.out g6)
    have HO6 := Lib.hid (Own.ext HO5.out g6)
    have hz6 := G6.out.size
    clear g6
    go_wp2_with (at_builtin; refine wp_app1U (w := w6) (B := w2.heap.size) (v := .slice A3 out1.length c3) (l := out1) 7 _ rfl rfl (.tmp 24) (.tmp 25) rfl rfl HO6.out _ rfl rfl (by omega) hz6 ?_; intro v7 w7 h7 g7 a7; obtain ⟨A7, c7, rfl⟩ := RdU.form (Own.rd h7); have HO7 := Lib.hid h7; have G7 := Lib.hid (gr_trans G6.out g7 (.inr fun q e => Own.lt HO6.out q e)); clear h7 g7 a7)
    obtain ⟨n, hn⟩ : ∃ n, n = out1.length + 1 := ⟨_, rfl⟩
    have HX : Hid (∃ xs, Own w7 w2.heap.size 1 (.slice A7 n c7) n xs) := by
      have h1 := HO7.out
      unfold OwnU at h1
      rw [List.length_append] at h1
      rw [hn]
      exact ⟨_, h1⟩
    obtain ⟨g, off, hA, hg⟩ : ∃ g off, A7 = some ⟨g, off, none⟩ ∧ w2.heap.size ≤ g := by
      obtain ⟨xs, h1⟩ := HX.out
      exact own_addr h1 (by omega)
    subst hA
    have hn2 : n ≤ 2000 := by omega
    rw [← hn]
    clear hn
    go_loopw [5] (fun i wr => ∃ k : Nat, k ≤ n ∧ i = .int .i64 k ∧ Hid (∃ xs, Own wr w2.heap.size 1 (.slice (some ⟨g, off, none⟩) n c7) n xs) ∧ w2.grownBy wr none) (fun i _ => n - (intOf i).toNat)
    case atStart => exact ⟨0, by omega, rfl, HX, G7.out⟩
    case round =>
      obtain ⟨k, hk, rfl, hx, hgr⟩ := hrel
      by_cases hlt : k < n
      · obtain ⟨xs, ho⟩ := hx.out
        obtain ⟨⟨z, c0⟩, f0⟩ := own_at ho hlt
        have HN : Hid (∃ ys, Own (wr.setCell ⟨g, off + k, none⟩ (.int .u32 9)) w2.heap.size 1 (.slice (some ⟨g, off, none⟩) n c7) n ys) := ⟨_, Go.Proofs.Ytbdieifggciopaa.Own.set rfl ho (j := k) (by omega) (.int .u32 9)⟩
        have HG := Lib.hid (gr_set_new hgr ⟨g, off + k, none⟩ (.int .u32 9) hg)
        clear ho hx hgr
        go_wp2
        go_roundw
        case rel => exact ⟨k + 1, by omega, by go_num, HN, HG.out⟩
        case measure => simp [intOf]; omega
      · obtain rfl : k = n := by omega
        have HG := Lib.hid hgr
        clear hgr hx
        go_wp2_with fail
        refine (HSA.out _ HG.out).mono ?_
        rintro e w8 ⟨rfl, g8⟩
        have G8 := Lib.hid (gr_none HG.out g8)
        clear g8
        go_wp2_with fail
        refine (HW.out _).mono ?_
        rintro e w9 ⟨rfl, g9⟩
        have G9 := Lib.hid (gr_none G2.out (gr_none G8.out g9))
        clear g9
        go_wp2
        go_ret
        exact ⟨rfl, G9.out⟩
  · clear HB
    go_wp2_with fail
    refine (HW.out _).mono ?_
    rintro e w3 ⟨rfl, g3⟩
    have G3 := Lib.hid (gr_none G1.out g3)
    clear g3
    go_wp2
    go_ret
    exact ⟨rfl, G3.out⟩
end Go.Proofs.Ytbdieifggciopaa
