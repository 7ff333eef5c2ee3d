/-
  InputCounts: the law's walk.
-/
import Derived.Test.YthckjpcknmmagaaDoorJoins
namespace Go.Proofs.YthckjpcknmmagaaDoor.R
open Go.RowKit
set_option maxRecDepth 100000
set_option maxHeartbeats 400000

/-! plainly -/
theorem Top.ris {C : Ed → Prop} {r : List Ed} (h : Top C r) {j : Nat} (hj : j + 1 < r.length) : r[j].t.toNat < r[j + 1].t.toNat ∨ r[j].t.toNat = r[j + 1].t.toNat ∧ r[j].h.toNat < r[j + 1].h.toNat :=
  (kn_lt _ _).1 (List.pairwise_iff_getElem.1 h.1 j (j + 1) (by omega) hj (by omega))
theorem Top.noloop {C : Ed → Prop} {r : List Ed} (h : Top C r) {j : Nat} (hj : j < r.length) : ¬ r[j].t.toNat = r[j].h.toNat :=
  fun e => ((h.2 _).1 (List.getElem_mem hj)).2.1 (UInt32.toNat_inj.1 e)
def NoAt (r : List Ed) (x : Ed) (k : Nat) : Prop := ∀ t (h : t < r.length), t < k → ¬ (r[t].t.toNat = x.t.toNat ∧ r[t].h.toNat = x.h.toNat)
theorem NoAt.succ {r : List Ed} {x : Ed} {k : Nat} (h : NoAt r x k) (hk : k < r.length) (hn : ¬ (r[k].t.toNat = x.t.toNat ∧ r[k].h.toNat = x.h.toNat)) : NoAt r x (k + 1) := fun t ht h1 => by
  by_cases e : t = k
  · subst e; exact hn
  · exact h t ht (by omega)
theorem Top.noAt {l r : List Ed} (h : Top (fun c => c ∈ l) r) {x : Ed} (hx : x ∈ l) (hn : NoAt r x r.length) : x.t.toNat = x.h.toNat := by
  apply Decidable.byContradiction
  intro e
  obtain ⟨y, hy, e1, -⟩ := h.there ⟨l, fun _ => Iff.rfl⟩ hx (fun e' => e (by rw [e']))
  obtain ⟨t, ht, rfl⟩ := List.mem_iff_getElem.1 hy
  exact hn t ht ht ((kn_iff _ _).1 e1)
theorem Top.pair {l r : List Ed} (h : Top (fun c => c ∈ l) r) {x : Ed} (hx : x ∈ l) {k : Nat} (hk : k < r.length) (e1 : r[k].t.toNat = x.t.toNat) (e2 : r[k].h.toNat = x.h.toNat) : ¬ x.t.toNat = x.h.toNat ∧ r[k].w.toNat ≤ x.w.toNat := by
  have hne : ¬ x.t.toNat = x.h.toNat := by rw [← e1, ← e2]; exact h.noloop hk
  refine ⟨hne, ?_⟩
  have hw := ((h.2 _).1 (List.getElem_mem hk)).2.2 x hx (fun e' => hne (by rw [e'])) ((kn_iff _ _).2 ⟨e1.symm, e2.symm⟩)
  have m1 := mn_lt r[k]
  have m2 := mn_lt x
  unfold wn at hw
  omega
theorem run_eqlE (x y : Ed) (w : World) : (binOp .eql 29 x.v y.v).run Tryd.prog w = .ok (.bool (edEq x y)) w := by
  unfold Ed.v
  rw [run_eql_struct]
  simp [go_sem]
  by_cases h1 : (x.t.toNat : Int) = y.t.toNat <;> by_cases h2 : (x.h.toNat : Int) = y.h.toNat <;> by_cases h3 : (x.w.toNat : Int) = y.w.toNat <;> by_cases h4 : (x.m.toNat : Int) = y.m.toNat <;> simp [edEq, h1, h2, h3, h4]
set_option maxHeartbeats 8000000 in
theorem counts_any (v : Value) (l : List Ed) (w : World) (hg : Glob w) (h : RdE w v l) :
    Calls Tryd.prog 4 #[v] w fun e w' => e = .returned (.bool true) ∧ w.grownBy w' none := by
  have hmax2 : l.length ≤ maxLen := by obtain ⟨_, _, _, _, _, _, h1, h2, _⟩ := h; omega
  unfold maxLen at hmax2
  have HW := Lib.hid fun (wx : World) (h : w.grownBy wx none) => works_any wx (hg.ext h)
  have HL := Lib.hid h
  obtain ⟨A, c, rfl⟩ := h.form
  obtain ⟨g, off, hA, _, hcells⟩ := h.at_ ed4
  have HA := Lib.hid hA
  have HC := Lib.hid hcells
  clear h hg hA hcells
  by_cases h200 : l.length ≤ 200
  · have HR0 := Lib.hid (reduce_any _ l w HL.out (by omega))
    go_enter Tryd.func4, Tryd.ntmps4
    go_wp2_with fail
    refine HR0.out.mono ?_
    rintro e w1 ⟨⟨u1, r, rfl, ho1, ht1, hl1⟩, g1⟩
    obtain ⟨A1, c1, rfl⟩ := ho1.rd.form
    obtain ⟨ga, offa, hA1, _, hc1⟩ := ho1.rd.at_ ed4
    have HA1 := Lib.hid hA1
    have HC1 := Lib.hid hc1
    have G1 := Lib.hid g1
    have HR1 := Lib.hid ho1.rd
    have HT := Lib.hid ht1
    have hz1 := G1.out.size
    clear ho1 g1 ht1 hA1 hc1 HR0
    go_wp2
    go_loopw [5, 4] (fun i u wr => ∃ k : Nat, k ≤ l.length ∧ i = .int .i64 ((k : Int) - 1) ∧ Hid (OwnE wr w1.heap.size u (l.drop k).reverse) ∧ w1.grownBy wr none) (fun i _ _ => (intOf i + 1).toNat)
    case atStart => exact ⟨l.length, by omega, rfl, Lib.hid (by rw [List.drop_length]; exact OwnG.nil _ _ _ _), gr_refl _ _⟩
    case round =>
      obtain ⟨k, hk, rfl, ho, hg⟩ := hrel
      have hz := hg.size
      rcases k with _ | k
      · as_aux_lemma =>
        have G2 := Lib.hid hg
        have HRV := Lib.hid ho.out.rd
        have hlen : (l.drop 0).reverse.length ≤ 200 := by simp; omega
        have HMV : Hid (∀ c, c ∈ (l.drop 0).reverse ↔ c ∈ l) := fun c => by simp
        clear hg ho
        generalize (l.drop 0).reverse = tr at *
        obtain ⟨AV, cV, rfl⟩ := HRV.out.form
        have HR2 := Lib.hid (reduce_any _ r wr (HR1.out.ext G2.out) (by omega))
        go_wp2_with fail
        refine HR2.out.mono ?_
        rintro e w3 ⟨⟨u3, r3, rfl, ho3, ht3, -⟩, g3⟩
        rw [ht3.same HT.out.again] at ho3
        have G3 := Lib.hid (gr_none G2.out g3)
        obtain ⟨A3, c3, rfl⟩ := ho3.rd.form
        have HQ3 := Lib.hid (eqE_any _ _ _ _ w3 (HR1.out.ext G3.out) ho3.rd (by omega) (by omega))
        have HV3 := Lib.hid (HRV.out.ext g3)
        clear ho3 g3 ht3 HR2
        go_wp2_with fail
        refine HQ3.out.mono ?_
        rintro e w4 ⟨⟨b, rfl, hb⟩, g4⟩
        obtain rfl : b = true := by first | exact hb.2 rfl | exact hb.2 trivial
        have G4 := Lib.hid (gr_none G3.out g4)
        have HR4 := Lib.hid (reduce_any _ tr w4 (HV3.out.ext g4) (by omega))
        clear hb g4 HQ3
        go_wp2_with fail
        refine HR4.out.mono ?_
        rintro e w5 ⟨⟨u5, r5, rfl, ho5, ht5, -⟩, g5⟩
        rw [(ht5.of_mem HMV.out).same HT.out] at ho5
        have G5 := Lib.hid (gr_none G4.out g5)
        obtain ⟨A5, c5, rfl⟩ := ho5.rd.form
        have HQ5 := Lib.hid (eqE_any _ _ _ _ w5 (HR1.out.ext G5.out) ho5.rd (by omega) (by omega))
        clear ho5 g5 ht5 HR4
        go_wp2_with fail
        refine HQ5.out.mono ?_
        rintro e w6 ⟨⟨b, rfl, hb⟩, g6⟩
        obtain rfl : b = true := by first | exact hb.2 rfl | exact hb.2 trivial
        have G6 := Lib.hid (gr_none G5.out g6)
        clear hb g6 HQ5
        go_wp2
        go_loopw [6] (fun i wq => ∃ j : Nat, j ≤ r.length ∧ i = .int .i64 j ∧ w1.grownBy wq none) (fun i _ => r.length - (intOf i).toNat)
        case atStart => exact ⟨0, by omega, rfl, G6.out⟩
        case round =>
          obtain ⟨j, hj, rfl, hg6⟩ := hrel
          by_cases hlt : j < r.length
          · have := HA1.out (by omega)
            subst this
            rcases j with _ | j
            · as_aux_lemma =>
              rcases hx : r[0] with ⟨xa, xb, xc, xd⟩
              obtain ⟨c0, c1, c2, c3⟩ := at4E HC1.out hg6 hlt hx
              have hne := HT.out.noloop hlt
              rw [hx] at hne
              simp only [] at hne
              have b1 : ((xa.toNat : Int) == (xb.toNat : Int)) = false := by simp; omega
              rw [Nat.zero_mul, Nat.add_zero] at c0 c1 c2 c3
              clear hx hne
              go_wp2_with fail
              go_quiet (fail)
              go_wp2
              go_roundw
              case rel => exact ⟨1, by omega, by go_num, gr_none hg6 (gr_drewN _ _ _)⟩
              case measure => simp [intOf]; omega
            · as_aux_lemma =>
              have hlt' : j < r.length := by omega
              have hrs := HT.out.ris hlt
              rcases hx : r[j + 1] with ⟨xa, xb, xc, xd⟩
              rcases hy : r[j] with ⟨ya, yb, yc, yd⟩
              obtain ⟨c0, c1, c2, c3⟩ := at4E HC1.out hg6 hlt hx
              obtain ⟨d0, d1, d2, d3⟩ := at4E HC1.out hg6 hlt' hy
              have hne := HT.out.noloop hlt
              rw [hx] at hne hrs
              rw [hy] at hrs
              simp only [] at hne hrs
              have b1 : ((xa.toNat : Int) == (xb.toNat : Int)) = false := by simp; omega
              have b2 : ¬ xa.toNat < ya.toNat := by omega
              have ew : IntKind.i64.wrap (j : Int) = (j : Int) := by rw [IntWalk.i64_in _ (by omega)]
              have ew2 : IntKind.i64.wrap ((j : Int) + 1) = (j : Int) + 1 := by rw [IntWalk.i64_in _ (by omega)]
              have hjr : (j : Int) + 1 < (r.length : Int) := by omega
              clear hx hy hne
              by_cases e1 : ya.toNat = xa.toNat
              · have b3 : ((ya.toNat : Int) == (xa.toNat : Int)) = true := by simp; omega
                have b4 : ¬ xb.toNat ≤ yb.toNat := by omega
                clear hrs e1
                go_wp2_with fail
                go_quiet (fail)
                go_wp2
                go_roundw
                case rel => exact ⟨j + 2, by omega, by go_num, gr_none hg6 (gr_drewN _ _ _)⟩
                case measure => simp [intOf]; omega
              · have b3 : ((ya.toNat : Int) == (xa.toNat : Int)) = false := by simp; omega
                clear hrs e1
                go_wp2_with fail
                go_quiet (fail)
                go_wp2
                go_roundw
                case rel => exact ⟨j + 2, by omega, by go_num, gr_none hg6 (gr_drewN _ _ _)⟩
                case measure => simp [intOf]; omega
          · obtain rfl : j = r.length := by omega
            clear hlt hj
            go_wp2
            go_loopw [7] (fun i wq => ∃ j : Nat, j ≤ l.length ∧ i = .int .i64 j ∧ w1.grownBy wq none) (fun i _ => l.length - (intOf i).toNat)
            case atStart => exact ⟨0, by omega, rfl, hg6⟩
            case round =>
              obtain ⟨j, hj, rfl, hg7⟩ := hrel
              by_cases hlt : j < l.length
              · as_aux_lemma =>
                have := HA.out (by omega)
                subst this
                rcases hx : l[j] with ⟨xa, xb, xc, xd⟩
                have HXM : Hid (⟨xa, xb, xc, xd⟩ ∈ l) := by show _ ∈ l; rw [← hx]; exact List.getElem_mem hlt
                have HX := Lib.hid hx
                clear hx
                go_wp2
                go_loopw [8] (fun i wq => ∃ t : Nat, t ≤ r.length ∧ i = .int .i64 t ∧ Hid (NoAt r ⟨xa, xb, xc, xd⟩ t) ∧ w1.grownBy wq none) (fun i _ => r.length - (intOf i).toNat)
                case atStart => exact ⟨0, by omega, rfl, Lib.hid (fun _ _ h => by omega), hg7⟩
                case round =>
                  obtain ⟨t, ht, rfl, hno, hg8⟩ := hrel
                  obtain ⟨c0, c1, c2, c3⟩ := at4E HC.out (gr_none G1.out hg8) hlt HX.out
                  by_cases hlt2 : t < r.length
                  · have := HA1.out (by omega)
                    subst this
                    rcases hy : r[t] with ⟨ya, yb, yc, yd⟩
                    obtain ⟨d0, d1, d2, d3⟩ := at4E HC1.out hg8 hlt2 hy
                    by_cases e1 : ya.toNat = xa.toNat
                    · have b1 : ((ya.toNat : Int) != (xa.toNat : Int)) = false := by rw [bne_eq_false_iff_eq]; omega
                      by_cases e2 : yb.toNat = xb.toNat
                      · have b2 : ((yb.toNat : Int) != (xb.toNat : Int)) = false := by rw [bne_eq_false_iff_eq]; omega
                        have hp := HT.out.pair HXM.out hlt2 (by rw [hy]; exact e1) (by rw [hy]; exact e2)
                        rw [hy] at hp
                        simp only [] at hp
                        have HY := Lib.hid hy
                        have b3 : ((xa.toNat : Int) == (xb.toNat : Int)) = false := by simp; omega
                        have b4 : ¬ xc.toNat < yc.toNat := by omega
                        have b5 : ((t : Int) == (r.length : Int)) = false := by simp; omega
                        clear e1 e2 hp hy
                        go_wp2_with fail
                        go_quiet (fail)
                        generalize hwq : World.drewN _ _ = wq
                        have hgq : w1.grownBy wq none := by rw [← hwq]; exact gr_none hg8 (gr_drewN _ _ _)
                        clear hwq c0 c1 c2 c3 d0 d1 d2 d3
                        obtain ⟨c0, c1, c2, c3⟩ := at4E HC.out (gr_none G1.out hgq) hlt HX.out
                        obtain ⟨d0, d1, d2, d3⟩ := at4E HC1.out hgq hlt2 HY.out
                        go_wp2_with fail
                        go_quiet (fail)
                        go_wp2
                        go_roundw
                        case rel => exact ⟨j + 1, by omega, by go_num, gr_none hgq (gr_drewN _ _ _)⟩
                        case measure => simp [intOf]; omega
                      · have b2 : ((yb.toNat : Int) != (xb.toNat : Int)) = true := by rw [bne_iff_ne]; omega
                        have HN := Lib.hid (hno.out.succ hlt2 (by rw [hy]; exact fun h => e2 h.2))
                        clear e1 e2 hno hy
                        go_wp2_with fail
                        go_quiet (fail)
                        go_wp2
                        go_roundw
                        case rel => exact ⟨t + 1, by omega, by go_num, HN, gr_none hg8 (gr_drewN _ _ _)⟩
                        case measure => simp [intOf]; omega
                    · have b1 : ((ya.toNat : Int) != (xa.toNat : Int)) = true := by rw [bne_iff_ne]; omega
                      have HN := Lib.hid (hno.out.succ hlt2 (by rw [hy]; exact fun h => e1 h.1))
                      clear e1 hno hy
                      go_wp2_with fail
                      go_quiet (fail)
                      go_wp2
                      go_roundw
                      case rel => exact ⟨t + 1, by omega, by go_num, HN, gr_none hg8 (gr_drewN _ _ _)⟩
                      case measure => simp [intOf]; omega
                  · obtain rfl : t = r.length := by omega
                    have he := HT.out.noAt HXM.out hno.out
                    simp only [] at he
                    have b3 : ((xa.toNat : Int) == (xb.toNat : Int)) = true := by simp; omega
                    clear he hno
                    go_wp2_with fail
                    go_quiet (fail)
                    generalize hwq : World.drewN _ _ = wq
                    have hgq : w1.grownBy wq none := by rw [← hwq]; exact gr_none hg8 (gr_drewN _ _ _)
                    clear hwq c0 c1 c2 c3
                    obtain ⟨c0, c1, c2, c3⟩ := at4E HC.out (gr_none G1.out hgq) hlt HX.out
                    go_wp2_with fail
                    go_quiet (fail)
                    go_wp2
                    go_roundw
                    case rel => exact ⟨j + 1, by omega, by go_num, gr_none hgq (gr_drewN _ _ _)⟩
                    case measure => simp [intOf]; omega
              · obtain rfl : j = l.length := by omega
                clear hlt hj hg6
                go_wp2
                go_loopw [9] (fun i wq => ∃ j : Nat, j ≤ r.length ∧ i = .int .i64 j ∧ w1.grownBy wq none) (fun i _ => r.length - (intOf i).toNat)
                case atStart => exact ⟨0, by omega, rfl, hg7⟩
                case round =>
                  obtain ⟨j, hj, rfl, hg9⟩ := hrel
                  by_cases hlt : j < r.length
                  · as_aux_lemma =>
                    have := HA1.out (by omega)
                    subst this
                    rcases hx : r[j] with ⟨xa, xb, xc, xd⟩
                    have HXM : Hid (⟨xa, xb, xc, xd⟩ ∈ l) := by show _ ∈ l; rw [← hx]; exact ((HT.out.2 _).1 (List.getElem_mem hlt)).1
                    have HX := Lib.hid hx
                    clear hx
                    go_wp2
                    go_loopw [10, 11] (fun b i wq => ∃ (t : Nat) (there : Bool), t ≤ l.length ∧ b = .bool there ∧ i = .int .i64 t ∧ Hid ((∃ q, ∃ h : q < l.length, q < t ∧ l[q] = ⟨xa, xb, xc, xd⟩) → there = true) ∧ w1.grownBy wq none) (fun _ i _ => l.length - (intOf i).toNat)
                    case atStart => exact ⟨0, false, by omega, rfl, rfl, Lib.hid (fun ⟨_, _, h, _⟩ => by omega), hg9⟩
                    case round =>
                      obtain ⟨t, b, ht, rfl, rfl, hin, hga⟩ := hrel
                      by_cases hlt2 : t < l.length
                      · have := HA.out (by omega)
                        subst this
                        rcases hy : l[t] with ⟨ya, yb, yc, yd⟩
                        obtain ⟨c0, c1, c2, c3⟩ := at4E HC1.out hga hlt HX.out
                        obtain ⟨d0, d1, d2, d3⟩ := at4E HC.out (gr_none G1.out hga) hlt2 hy
                        have HY := Lib.hid hy
                        clear hy
                        have HN : Hid (∀ b', (b = true → b' = true) → (((⟨ya, yb, yc, yd⟩ : Ed) = ⟨xa, xb, xc, xd⟩) → b' = true) → (∃ q, ∃ h : q < l.length, q < t + 1 ∧ l[q] = ⟨xa, xb, xc, xd⟩) → b' = true) := by
                          rintro b' h1 h2 ⟨q, hq, hq1, hq2⟩
                          by_cases e : q = t
                          · subst e
                            exact h2 (by rw [← HY.out, hq2])
                          · exact h1 (hin.out ⟨q, hq, by omega, hq2⟩)
                        clear hin
                        cases b
                        · have hne := run_eqlE ⟨ya, yb, yc, yd⟩ ⟨xa, xb, xc, xd⟩
                          have Hiff := Lib.hid (edEq_iff ⟨ya, yb, yc, yd⟩ ⟨xa, xb, xc, xd⟩)
                          simp only [Ed.v] at hne
                          generalize edEq ⟨ya, yb, yc, yd⟩ ⟨xa, xb, xc, xd⟩ = B at *
                          have HN2 := Lib.hid (HN.out B (fun h => by cases h) Hiff.out.2)
                          clear HN Hiff
                          go_wp2_with fail
                          go_quiet (fail)
                          go_wp2
                          go_roundw
                          case rel => exact ⟨t + 1, B, by omega, rfl, by go_num, HN2, gr_none hga (gr_drewN _ _ _)⟩
                          case measure => simp [intOf]; omega
                        · clear HN
                          go_wp2_with fail
                          go_quiet (fail)
                          go_wp2
                          go_roundw
                          case rel => exact ⟨t + 1, true, by omega, rfl, by go_num, Lib.hid (fun _ => rfl), gr_none hga (gr_drewN _ _ _)⟩
                          case measure => simp [intOf]; omega
                      · obtain rfl : t = l.length := by omega
                        obtain rfl : b = true := by
                          obtain ⟨q, hq, e⟩ := List.mem_iff_getElem.1 HXM.out
                          exact hin.out ⟨q, hq, hq, e⟩
                        clear hin
                        go_wp2
                        go_roundw
                        case rel => exact ⟨j + 1, by omega, by go_num, hga⟩
                        case measure => simp [intOf]; omega
                  · obtain rfl : j = r.length := by omega
                    have G9 := Lib.hid (gr_none G1.out hg9)
                    clear hlt hj hg9
                    go_wp2_with fail
                    refine (HW.out _ G9.out).mono ?_
                    rintro e wz ⟨rfl, gz⟩
                    have GZ := Lib.hid (gr_none G9.out gz)
                    clear gz
                    go_wp2
                    go_ret
                    exact ⟨rfl, GZ.out⟩
      · as_aux_lemma =>
        have hlt : k < l.length := by omega
        have := HA.out (by omega)
        subst this
        rcases hx : l[k] with ⟨xa, xb, xc, xd⟩
        obtain ⟨c0, c1, c2, c3⟩ := at4E HC.out (gr_none G1.out hg) hlt hx
        have HTR : Hid ((l.drop k).reverse = (l.drop (k + 1)).reverse ++ [⟨xa, xb, xc, xd⟩]) := by show _ = _; rw [List.drop_eq_getElem_cons hlt, List.reverse_cons, hx]
        have hlen : (l.drop (k + 1)).reverse.length ≤ 200 := by simp; omega
        have e1 : ((k + 1 : Nat) : Int) - 1 = (k : Int) := by push_cast; omega
        rw [e1]
        have GX := Lib.hid hg
        have HO := ho
        clear hx hg ho e1
        generalize (l.drop (k + 1)).reverse = TW at *
        obtain ⟨A8, c8, rfl⟩ := HO.out.rd.form
        go_wp2_with (at_builtin; refine wp_app1E ⟨xa, xb, xc, xd⟩ _ rfl rfl (.tmp 25) (.tmp 30) rfl rfl HO.out wr.heap.size rfl rfl (by omega) (by omega) ?_; intro v7 w7 h7 g7 a7; have G7 : Hid (w1.grownBy w7 none) := gr_app GX.out HO.out (Nat.le_refl _) g7; have H7 := Lib.hid h7; clear g7 a7 h7)
        go_roundw
        case rel => exact ⟨k, by omega, by first | rfl | go_num, Lib.hid (by rw [HTR.out]; exact H7.out), G7.out⟩
        case measure => simp [intOf]
  · have hgt : 200 < l.length := by omega
    go_enter Tryd.func4, Tryd.ntmps4
    go_wp2_with fail
    refine (HW.out _ (gr_refl _ _)).mono ?_
    rintro e w1 ⟨rfl, g1⟩
    have G1 := Lib.hid g1
    clear g1
    go_wp2
    go_ret
    exact ⟨rfl, G1.out⟩
end Go.Proofs.YthckjpcknmmagaaDoor.R
namespace Go.Proofs.YthckjpcknmmagaaDoor
theorem counts_any (v : Value) (l : List Ed) (w : World) (hg : Glob w) (h : RdE w v l) :
    Calls Tryd.prog 4 #[v] w fun e w' => e = .returned (.bool true) ∧ w.grownBy w' none := R.counts_any v _ w hg (R.rdE_of h)
end Go.Proofs.YthckjpcknmmagaaDoor
