/-
  Hub: the document's Add.
-/
import Derived.Test.YtfgkmimhibpceaaHpl
namespace Go.Proofs.Ytfgkmimhibpceaa
open Go.RowKit
set_option maxRecDepth 100000
set_option maxHeartbeats 400000

/-- which slice a vertex' labels are. -/
def OfAt (all : List Ow) (x : UInt32) (u : Value) : Prop := (u = .slice none 0 0 ∧ ofS all x = []) ∨ ∃ y ∈ all, u = y.s ∧ ofS all x = y.l
theorem OfAt.rd {w : World} {v : Value} {all : List Ow} {x : UInt32} {u : Value} (h : OfAt all x u) (hS : RdS w v all) : RdL w u (ofS all x) := by
  rcases h with ⟨rfl, e⟩ | ⟨y, hy, rfl, e⟩
  · rw [e]; exact RdG.nil _ _ _
  · rw [e]; exact hS.2 y hy
theorem ofr_at (v : Value) (all : List Ow) (x : UInt32) (w : World) (h : RdS w v all) (hn : all.length ≤ 1000000000) :
    Calls Try.prog 24 #[v, .int .u32 x.toNat] w fun e w' => (∃ u, e = .returned u ∧ OfAt all x u) ∧ w.grownBy w' none := by
  obtain ⟨A, c, rfl⟩ := h.1.form
  obtain ⟨g, off, hA, _, hcells⟩ := h.1.at_ ow2
  have HA := Lib.hid hA
  have HC := Lib.hid hcells
  have HL := Lib.hid h.2
  clear hA hcells h
  go_enter Try.func24, Try.ntmps24
  go_wp2
  go_loopw [5] (fun i wr => ∃ k : Nat, k ≤ all.length ∧ i = .int .i64 k ∧ NotTo all x k ∧ w.grownBy wr none) (fun i _ => all.length - (intOf i).toNat)
  case atStart => exact ⟨0, by omega, rfl, fun _ _ h => by omega, gr_refl _ _⟩
  case round =>
    obtain ⟨k, hk, rfl, hall, hg⟩ := hrel
    have Hall := Lib.hid hall
    clear hall
    by_cases hlt : k < all.length
    · have := HA.out (by omega)
      subst this
      rcases hx : all[k] with ⟨xa, xs, xl⟩
      obtain ⟨c0, c1⟩ := at2S HC.out hg hlt hx
      have HXL : Hid (RdL w xs xl) := by have := HL.out _ (List.getElem_mem hlt); rw [hx] at this; exact this
      have Hx := Lib.hid hx
      obtain ⟨A2, c2, rfl⟩ := HXL.out.form
      clear hx
      by_cases he : xa.toNat = x.toNat
      · have HE : Hid (ofS all x = xl) := by
          show _ = _
          rw [ofS_found hlt Hall.out (by rw [Hx.out]; exact UInt32.toNat_inj.1 he), Hx.out]
        go_wp2
        go_ret
        exact ⟨⟨_, rfl, .inr ⟨_, List.getElem_mem hlt, by rw [Hx.out]; rfl, by rw [HE.out, Hx.out]⟩⟩, hg⟩
      · have HN : Hid (NotTo all x (k + 1)) := fun i h hi => by
          by_cases e : i = k
          · subst e; rw [Hx.out]; exact fun e => he (by rw [← e])
          · exact Hall.out i h (by omega)
        go_wp2
        go_roundw
        case rel => exact ⟨k + 1, by omega, by go_num, HN.out, hg⟩
        case measure => simp [intOf]; omega
    · obtain rfl : k = all.length := by omega
      have HE : Hid (ofS all x = []) := ofS_none Hall.out
      go_wp2
      go_ret
      exact ⟨⟨_, rfl, .inl ⟨rfl, HE.out⟩⟩, hg⟩
theorem putL_len (l : List Lb) (x : Lb) : (putL l x).length ≤ l.length + 1 := by
  induction l with
  | nil => simp [putL]
  | cons y r ih =>
    unfold putL
    split
    · simpa using ih
    · split
      · split <;> simp
      · simp
theorem putL_ne (l : List Lb) (x : Lb) : putL l x ≠ [] := by
  cases l with
  | nil => simp [putL]
  | cons y r => unfold putL; split <;> (try split) <;> (try split) <;> simp
theorem candL_put {e : Ed} {l : List Lb} {x : Lb} (h : e.w.toNat + x.dist.toNat < 9223372036854775808) : candL e l x = putL l ⟨x.hub, e.h, UInt64.ofNat (e.w.toNat + x.dist.toNat)⟩ := by unfold candL; rw [if_pos h]
theorem candL_no {e : Ed} {l : List Lb} {x : Lb} (h : ¬ e.w.toNat + x.dist.toNat < 9223372036854775808) : candL e l x = l := by unfold candL; rw [if_neg h]
/-- an own list that may grow. -/
structure OutS (w wr : World) (u : Value) (l : List Lb) (n : Nat) : Prop where
  own : OwnL wr w.heap.size u l
  gr : w.grownBy wr none
  ne : l ≠ []
  len : l.length ≤ n
theorem OutS.put {w wx w' : World} {u u' : Value} {l : List Lb} {n : Nat} {x : Lb} (h : OutS w wx u l n) (ho : OwnL w' w.heap.size u' (putL l x)) (hg : wx.grownBy w' u.ownBlock) : OutS w w' u' (putL l x) (n + 1) :=
  ⟨ho, gr_trans h.gr hg (.inr h.own.lt), putL_ne _ _, by have := putL_len l x; have := h.len; omega⟩
theorem OutS.ext {w wr wx : World} {u : Value} {l : List Lb} {n : Nat} (h : OutS w wr u l n) (hg : wr.grownBy wx none) : OutS w wx u l n := ⟨h.own.ext hg, gr_none h.gr hg, h.ne, h.len⟩
theorem OutS.call {w wx : World} {u : Value} {l : List Lb} {n : Nat} (h : OutS w wx u l n) (hn : n ≤ 1000000) (x : Lb) :
    Calls Try.prog 35 #[u, x.v] wx fun e w' => ∃ u', e = .returned u' ∧ OutS w w' u' (putL l x) (n + 1) :=
  (putr_any u l x w.heap.size wx h.own (by have := h.len; omega) h.gr.size (fun e => absurd e h.ne)).mono fun e w' ⟨u', he, ho, hg, _⟩ => ⟨u', he, h.put ho hg⟩
set_option maxHeartbeats 8000000 in
theorem addr19_any (v : UInt32) (ev sv : Value) (up : List Ed) (all : List Ow) (w : World) (h : RdE w ev up) (hn : up.length ≤ 400) (hS : RdS w sv all) (ha : all.length ≤ 600) (hm : ∀ x, (ofS all x).length ≤ 600) :
    Calls Try.prog 17 #[.int .u32 v.toNat, ev, sv] w fun e w' => (∃ u, e = .returned u ∧ OwnL w' w.heap.size u (addL v up (ofS all))) ∧ w.grownBy w' none := by
  obtain ⟨A, c, rfl⟩ := h.form
  obtain ⟨AS, cS, rfl⟩ := hS.1.form
  obtain ⟨g, off, hA, _, hcells⟩ := h.at_ ed4
  have HA := Lib.hid hA
  have HC := Lib.hid hcells
  have HS := Lib.hid hS
  have HM := Lib.hid hm
  have HO := Lib.hid fun (wx : World) (hg : w.grownBy wx none) (x : UInt32) => ofr_at _ all x wx (hS.ext hg) (by omega)
  have HP0 := Lib.hid (putr_any (.slice none 0 0) [] ⟨v, v, 0⟩ w.heap.size w (OwnG.nil _ _ _ _) (by simp) (Nat.le_refl _) (fun _ => rfl))
  clear hA hcells h hS hm
  unfold Lb.v at HP0
  go_enter Try.func17, Try.ntmps17
  go_wp2_with fail
  refine HP0.out.mono ?_
  rintro e w1 ⟨u1, rfl, o1, g1, -⟩
  have HO1 : Hid (OutS w w1 u1 (firstL v) 1) := ⟨o1, gr_of_none g1, putL_ne _ _, by have := putL_len [] ⟨v, v, 0⟩; simpa [firstL] using this⟩
  clear o1 g1
  go_wp2
  go_loopw [8, 7] (fun i u wr => ∃ k : Nat, k ≤ up.length ∧ i = .int .i64 k ∧ Hid (OutS w wr u ((up.take k).foldl (edgeL (ofS all)) (firstL v)) (1 + 600 * k))) (fun i _ _ => up.length - (intOf i).toNat)
  case atStart => exact ⟨0, by omega, rfl, HO1⟩
  case round =>
    obtain ⟨k, hk, rfl, ho⟩ := hrel
    obtain ⟨wo, rfl⟩ : ∃ wo, wo = wr := ⟨_, rfl⟩
    by_cases hlt : k < up.length
    · have := HA.out (by omega)
      subst this
      have HF := Lib.hid (foldl_succ (edgeL (ofS all)) (firstL v) hlt)
      rcases hx : up[k] with ⟨ea, eb, ec, ed⟩
      obtain ⟨c0, c1, c2, c3⟩ := at4E HC.out ho.out.gr hlt hx
      have Hx := Lib.hid hx
      have HOF := Lib.hid (HO.out _ ho.out.gr eb)
      have HLM := HM.out eb
      clear hx
      generalize hB0 : (up.take k).foldl (edgeL (ofS all)) (firstL v) = L0 at *
      have HB0 := Lib.hid hB0
      clear hB0
      go_wp2_with fail
      refine HOF.out.mono ?_
      rintro e w3 ⟨⟨u, rfl, hat⟩, g3⟩
      have HR := Lib.hid (hat.rd HS.out)
      have HO3 := Lib.hid (ho.out.ext g3)
      obtain ⟨A3, c5, rfl⟩ := HR.out.form
      clear hat g3 ho
      generalize hL : ofS all eb = L at HLM HR
      have HLE := Lib.hid hL
      clear hL
      obtain ⟨g3, off3, hA3, _, hc3⟩ := HR.out.at_ lb3
      have HA3 := Lib.hid hA3
      have HC3 := Lib.hid hc3
      clear hA3 hc3
      go_wp2
      go_loopw [10, 7] (fun i u wq => ∃ j : Nat, j ≤ L.length ∧ i = .int .i64 j ∧ Hid (OutS w wq u ((L.take j).foldl (candL ⟨ea, eb, ec, ed⟩) L0) (1 + 600 * k + j))) (fun i _ _ => L.length - (intOf i).toNat)
      case atStart => exact ⟨0, by omega, rfl, HO3⟩
      case round =>
        obtain ⟨j, hj, rfl, ho⟩ := hrel
        by_cases hlj : j < L.length
        · have := HA3.out (by omega)
          subst this
          have HSU := Lib.hid (foldl_succ (candL ⟨ea, eb, ec, ed⟩) L0 hlj)
          rcases hy : L[j] with ⟨xa, xb, xd⟩
          obtain ⟨d0, d1, d2⟩ := at3L HC3.out ho.out.gr hlj hy
          obtain ⟨c0q, c1q, c2q, c3q⟩ := at4E HC.out ho.out.gr hlt Hx.out
          have HY := Lib.hid hy
          have HAW := Lib.hid (addr_q ec.toNat xd.toNat ec.toNat_lt xd.toNat_lt)
          clear hy d1 c3q c0q
          by_cases hsum : ec.toNat + xd.toNat < 9223372036854775808
          · rw [addV_lt hsum] at HAW
            have HPT : Hid (∀ wx, wr.grownBy wx none → ∀ u, OutS w wr u ((L.take j).foldl (candL ⟨ea, eb, ec, ed⟩) L0) (1 + 600 * k + j) → Calls Try.prog 35 #[u, .agg #[.int .u32 xa.toNat, .int .u32 eb.toNat, .int .u64 ((ec.toNat + xd.toNat : Nat) : Int)]] wx fun e w' => ∃ u', e = .returned u' ∧ OutS w w' u' ((L.take (j + 1)).foldl (candL ⟨ea, eb, ec, ed⟩) L0) (1 + 600 * k + j + 1) ∧ w'.cell? ⟨g3, off3 + j * 3, none⟩ = some (.int .u32 xa.toNat) ∧ w'.cell? ⟨g, off + k * 4 + 1, none⟩ = some (.int .u32 eb.toNat)) := by
              intro wx hx u hu
              have := (hu.ext hx).call (by omega) ⟨xa, eb, UInt64.ofNat (ec.toNat + xd.toNat)⟩
              unfold Lb.v at this
              simp only [] at this
              rw [u64_ofNat _ (by omega)] at this
              have e1 : (L.take (j + 1)).foldl (candL ⟨ea, eb, ec, ed⟩) L0 = putL ((L.take j).foldl (candL ⟨ea, eb, ec, ed⟩) L0) ⟨xa, eb, UInt64.ofNat (ec.toNat + xd.toNat)⟩ := by
                rw [HSU.out, HY.out, candL_put hsum]
              rw [e1]
              exact this.mono fun e w' ⟨u', he, h'⟩ => ⟨u', he, h', (at3L HC3.out h'.gr hlj HY.out).1, (at4E HC.out h'.gr hlt Hx.out).2.1⟩
            generalize hs : ec.toNat + xd.toNat = s at *
            clear hs hsum
            go_wp2_with fail
            go_quiet ((go_at_call 25; with_reducible exact Calls.quiet_of (HAW.out _)))
            go_wp2_with fail
            go_region_held3 (fun w' => w'.cell? ⟨g3, off3 + j * 3, none⟩ = some (.int .u32 xa.toNat) ∧ w'.cell? ⟨g, off + k * 4 + 1, none⟩ = some (.int .u32 eb.toNat)) (go_keep) (first
              | (go_at_call 35; refine (HPT.out _ ?_ _ ho.out).mono ?_; (first | exact gr_drewN _ _ _ | exact gr_none (gr_drewN _ _ _) (gr_drewN _ _ _) | exact gr_none (gr_drewN _ _ _) (gr_drew _ _)); rintro e w6 ⟨u6, rfl, ho6, k6, q6⟩))
            go_wp2
            go_roundw
            case rel => exact ⟨j + 1, by omega, by go_num, Lib.hid ho6⟩
            case measure => simp [intOf]; omega
          · rw [addV_ge hsum] at HAW
            have HPT : Hid (∀ wx, wr.grownBy wx none → ∀ u, OutS w wr u ((L.take j).foldl (candL ⟨ea, eb, ec, ed⟩) L0) (1 + 600 * k + j) → OutS w wx u ((L.take (j + 1)).foldl (candL ⟨ea, eb, ec, ed⟩) L0) (1 + 600 * k + j + 1)) := by
              intro wx hx u hu
              rw [HSU.out, HY.out, candL_no hsum]
              exact ⟨hu.own.ext hx, gr_none hu.gr hx, hu.ne, by have := hu.len; omega⟩
            clear hsum
            go_wp2_with fail
            go_quiet ((go_at_call 25; with_reducible exact Calls.quiet_of (HAW.out _)))
            go_wp2
            go_roundw
            case rel => exact ⟨j + 1, by omega, by go_num, Lib.hid (HPT.out _ (gr_drewN _ _ _) _ ho.out)⟩
            case measure => simp [intOf]; omega
        · obtain rfl : j = L.length := by omega
          have HPE := ho.out
          rw [List.take_length] at HPE
          have HPE2 : ∀ u, OutS w wr u (L.foldl (candL ⟨ea, eb, ec, ed⟩) L0) (1 + 600 * k + L.length) → OutS w wr u ((up.take (k + 1)).foldl (edgeL (ofS all)) (firstL v)) (1 + 600 * (k + 1)) := fun u h => by
            rw [HF.out, Hx.out]
            unfold edgeL
            simp only []
            rw [HLE.out]
            exact ⟨h.own, h.gr, h.ne, by have := h.len; omega⟩
          have HPE3 := Lib.hid (HPE2 _ HPE)
          clear HPE HPE2 ho
          go_wp2
          go_roundw
          case rel => exact ⟨k + 1, by omega, by go_num, HPE3⟩
          case measure => simp [intOf]; omega
    · obtain rfl : k = up.length := by omega
      have ho2 := ho.out
      rw [List.take_length] at ho2
      have HO2 := Lib.hid ho2
      clear ho ho2
      go_wp2
      go_ret
      exact ⟨⟨_, rfl, HO2.out.own⟩, HO2.out.gr⟩
end Go.Proofs.Ytfgkmimhibpceaa
