/-
  InputMarks, the law's own walk.
-/
import Derived.Test.YtikgobndekgjcaaDoorMore
namespace Go.Proofs.YtikgobndekgjcaaDoor
open Go.RowKit
set_option maxRecDepth 100000
set_option maxHeartbeats 400000

/-- a byte of an owned slice, and a store of one. -/
theorem OwnB.at_ {w : World} {B n c : Nat} {A : Option Addr} {b : List UInt8} (h : OwnB w B (.slice A n c) b) {k : Nat} (hk : k < b.length) :
    ∃ g off, A = some ⟨g, off, none⟩ ∧ B ≤ g ∧ n = b.length ∧ n ≤ c ∧ w.cell? ⟨g, off + k, none⟩ = some (.int .u8 b[k].toNat) ∧ w.frozen? ⟨g, off + k, none⟩ = false ∧
      ∀ u : UInt8, OwnB (w.setCell ⟨g, off + k, none⟩ (.int .u8 u.toNat)) B (.slice A n c) (b.set k u) := by
  have h0 := h
  obtain ⟨hl, A', c', g, off, e, hn, hc, hA0, hA, hB, hx, hf⟩ := h
  cases e
  have hA' := hA (by omega)
  subst hA'
  refine ⟨g, off, rfl, hB _ rfl, rfl, hn, ?_, (hf k (by omega)).2, fun u => ?_⟩
  · rw [hx k (by omega), List.getElem?_map, List.getElem?_eq_getElem hk]
    rfl
  · have s := Own.set rfl h0 (j := k) (by omega) (.int .u8 u.toNat)
    unfold OwnB
    rw [List.length_set, List.map_set]
    exact s
theorem inputB_cons (n : UInt32) (l : List Ed) (X : List UInt8) : inputB n l ++ X = 77 :: 80 :: 71 :: 49 :: (le n.toNat 4 ++ (le l.length 4 ++ X)) := by simp [inputB, magic]
theorem mark_at (n : UInt32) (l : List Ed) (X : List UInt8) {k : Nat} (hk : k < 4) {v : UInt8} (h : (inputB n l ++ X)[k]? ≠ some v) : checkM ((inputB n l ++ X).set k v) = (0, [], some (8, k)) := by
  refine check_head (n := 0) (m := 0) ?_
  rw [inputB_cons] at h ⊢
  have hm : mis ((77 :: 80 :: 71 :: 49 :: (le n.toNat 4 ++ (le l.length 4 ++ X))).set k v) magic 0 = some k := by
    match k, hk with
    | 0, _ => simp at h; simp [mis, magic, Ne.symm h]
    | 1, _ => simp at h; simp [mis, magic, Ne.symm h]
    | 2, _ => simp at h; simp [mis, magic, Ne.symm h]
    | 3, _ => simp at h; simp [mis, magic, Ne.symm h]
  unfold headM
  rw [hm]

set_option maxHeartbeats 2000000 in
theorem marks_any (n : UInt32) (vl : Value) (p u : UInt8) (l : List Ed) (w : World) (hg : Glob w) (h : RdE w vl l) :
    Calls Tryd.prog 8 #[.agg #[.int .u32 n.toNat, vl, .int .u8 p.toNat, .int .u8 u.toNat]] w fun e w' => e = .returned (.bool true) ∧ w.grownBy w' none := by
  obtain ⟨Al, cl, rfl⟩ := h.form
  have Hg := Lib.hid hg
  have HL := Lib.hid h
  clear hg h
  have ga := gr_alloc w (.cells #[.int .u32 n.toNat, .slice Al l.length cl, .int .u8 p.toNat, .int .u8 u.toNat] 50) none
  have Ga := Lib.hid ga
  clear ga
  have hpl := p.toNat_lt
  by_cases hl : 1024 < l.length
  · go_enter Tryd.func8, Tryd.ntmps8
    go_wp2_with (go_at_call 14; refine (works_any _ (Hg.out.ext Ga.out)).mono ?_; rintro e w1 ⟨rfl, g1⟩)
    go_ret
    exact ⟨rfl, gr_none Ga.out g1⟩
  have Hw := Lib.hid (write_any n _ l _ (HL.out.ext Ga.out) (by omega))
  rcases hok : writeOk n l with _ | _
  · have Hok := Lib.hid hok
    clear hok
    go_enter Tryd.func8, Tryd.ntmps8
    go_wp2_with (first
      | (go_at_call 21; refine Hw.out.mono ?_; rintro e w1 ⟨r1, g1⟩; obtain ⟨A1, c1, rfl⟩ := resW_bad Hok.out r1)
      | (go_at_call 14; refine (works_any _ (Hg.out.ext (gr_none Ga.out g1))).mono ?_; rintro e w2 ⟨rfl, g2⟩))
    go_ret
    exact ⟨rfl, gr_none (gr_none Ga.out g1) g2⟩
  · have Hok := Lib.hid hok
    clear hok
    obtain ⟨k, hk⟩ : ∃ k, k = p.toNat % 4 := ⟨_, rfl⟩
    have hk4 : k < 4 := by omega
    have hkm : ((p.toNat : Int) % 4) = (k : Int) := by omega
    clear hk
    have hkl : k < (inputB n l ++ l.flatMap Ed.row).length := by rw [length_written]; omega
    go_enter Tryd.func8, Tryd.ntmps8
    go_wp2_with fail
    refine Hw.out.mono ?_
    rintro e w1 ⟨r1, g1⟩
    obtain ⟨A1, c1, rfl, o1⟩ := resW_ok Hok.out r1
    obtain ⟨g, off, rfl, hBg, hnl, hnc, hcell, hfr, hset⟩ := o1.at_ hkl
    have o2 := hset u
    have G1 := Lib.hid (gr_none Ga.out g1)
    have hz : w.heap.size ≤ g := Nat.le_trans Ga.out.size hBg
    have G2 := Lib.hid (gr_set_new G1.out ⟨g, off + k, none⟩ (.int .u8 u.toNat) hz)
    have hc := Check_any _ _ _ (Hg.out.ext G2.out) o2.rd (by rw [List.length_set, length_written]; omega)
    unfold ResC4 at hc
    generalize hbk : (inputB n l ++ l.flatMap Ed.row)[k] = was at *
    have hbk? : (inputB n l ++ l.flatMap Ed.row)[k]? = some was := by rw [List.getElem?_eq_getElem hkl, hbk]
    by_cases hw : u = was
    · have hset' : (inputB n l ++ l.flatMap Ed.row).set k u = inputB n l ++ l.flatMap Ed.row := by
        rw [hw, ← hbk]; exact List.set_getElem_self _
      have hcw := check_write Hok.out []
      rw [List.append_nil, if_pos rfl] at hcw
      rw [hset', hcw] at hc
      simp only [Flt.e, Flt.p, Option.getD] at hc
      have Hc := Lib.hid hc
      clear hc hcw hset hset' o1 o2 r1 g1 hnl hbk hbk?
      have hue : ((u.toNat : Int) == (was.toNat : Int)) = true := by rw [hw]; simp
      clear hw
      go_wp2_with (first
        | (go_at_call 16; refine Hc.out.mono ?_; rintro e w3 ⟨⟨v3, rfl, -⟩, g3⟩)
        | (go_at_call 14; refine (works_any _ (Hg.out.ext (gr_none G2.out g3))).mono ?_; rintro e w4 ⟨rfl, g4⟩))
      go_ret
      exact ⟨rfl, gr_none (gr_none G2.out g3) g4⟩
    · rw [mark_at n l _ hk4 (by rw [hbk?]; simpa using Ne.symm hw)] at hc
      simp only [Flt.e, Flt.p, Option.getD] at hc
      have Hc := Lib.hid hc
      clear hc hset o1 o2 r1 g1 hnl hbk hbk?
      have hue : ((u.toNat : Int) == (was.toNat : Int)) = false := by
        rw [beq_eq_false_iff_ne]
        intro e
        exact hw (UInt8.toNat_inj.1 (by omega))
      clear hw
      go_wp2_with (first
        | (go_at_call 16; refine Hc.out.mono ?_; rintro e w3 ⟨⟨v3, rfl, -⟩, g3⟩)
        | (go_at_call 14; refine (works_any _ (Hg.out.ext (gr_none G2.out g3))).mono ?_; rintro e w4 ⟨rfl, g4⟩))
      go_ret
      exact ⟨rfl, gr_none (gr_none G2.out g3) g4⟩
end Go.Proofs.YtikgobndekgjcaaDoor
