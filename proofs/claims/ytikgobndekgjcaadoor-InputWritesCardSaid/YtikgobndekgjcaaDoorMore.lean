/-
  InputMore, the law's own walk.
-/
import Derived.Test.YtikgobndekgjcaaDoorLaw
namespace Go.Proofs.YtikgobndekgjcaaDoor
open Go.RowKit
set_option maxRecDepth 100000
set_option maxHeartbeats 400000

theorem own_gr {a b c : World} {v : Value} (h : a.grownBy b none) (k : b.grownBy c v.ownBlock) (hv : ∀ g, v.ownBlock = some g → a.heap.size ≤ g) : a.grownBy c none := gr_trans h k (.inr hv)
/-- what Write answers, by whether it may be. -/
theorem resW_ok {n : UInt32} {l : List Ed} (h : writeOk n l = true) {B : Nat} {e : Ending} {w' : World} (hr : ResW B (writeM n l) e w') :
    ∃ A c, e = .returned (.tuple #[.slice A (12 + 16 * l.length) c, .int .i64 0]) ∧ OwnB w' B (.slice A (12 + 16 * l.length) c) (inputB n l ++ l.flatMap Ed.row) := by
  rw [writeM_ok h] at hr
  obtain ⟨v, he, ho⟩ := hr
  obtain ⟨A, c, rfl⟩ := ho.rd.form
  have hl : (inputB n l ++ l.flatMap Ed.row).length = 12 + 16 * l.length := by rw [List.length_append, length_inputB, flatMap_len Ed.row length_row]; omega
  rw [hl] at he ho
  exact ⟨A, c, he, ho⟩
theorem resW_bad {n : UInt32} {l : List Ed} (h : writeOk n l = false) {B : Nat} {e : Ending} {w' : World} (hr : ResW B (writeM n l) e w') :
    ∃ A c, e = .returned (.tuple #[.slice A 0 c, .int .i64 1]) := by
  rw [writeM_bad h] at hr
  obtain ⟨v, he, ho⟩ := hr
  obtain ⟨A, c, rfl⟩ := ho.rd.form
  exact ⟨A, c, he⟩
theorem length_written (n : UInt32) (l : List Ed) : (inputB n l ++ l.flatMap Ed.row).length = 12 + 16 * l.length := by rw [List.length_append, length_inputB, flatMap_len Ed.row length_row]; omega

set_option maxHeartbeats 2000000 in
theorem more_any (n : UInt32) (vl vm : Value) (l : List Ed) (m : List UInt8) (w : World) (hg : Glob w) (h : RdE w vl l) (hm : RdB w vm m) :
    Calls Tryd.prog 6 #[.int .u32 n.toNat, vl, vm] w fun e w' => e = .returned (.bool true) ∧ w.grownBy w' none := by
  obtain ⟨Al, cl, rfl⟩ := h.form
  obtain ⟨Am, cm, rfl⟩ := hm.form
  have Hg := Lib.hid hg
  have HL := Lib.hid h
  have HM := Lib.hid hm
  clear hg h hm
  by_cases hl : 1024 < l.length
  · go_enter Tryd.func6, Tryd.ntmps6
    go_wp2_with (go_at_call 14; refine (works_any _ Hg.out).mono ?_; rintro e w1 ⟨rfl, g1⟩)
    go_ret
    exact ⟨rfl, g1⟩
  by_cases hm : 4096 < m.length
  · go_enter Tryd.func6, Tryd.ntmps6
    go_wp2_with (go_at_call 14; refine (works_any _ Hg.out).mono ?_; rintro e w1 ⟨rfl, g1⟩)
    go_ret
    exact ⟨rfl, g1⟩
  have Hw := Lib.hid (write_any n _ l w HL.out (by omega))
  rcases hok : writeOk n l with _ | _
  · have Hok := Lib.hid hok
    clear hok
    go_enter Tryd.func6, Tryd.ntmps6
    go_wp2_with (first
      | (go_at_call 21; refine Hw.out.mono ?_; rintro e w1 ⟨r1, g1⟩; obtain ⟨A1, c1, rfl⟩ := resW_bad Hok.out r1)
      | (go_at_call 14; refine (works_any _ (Hg.out.ext g1)).mono ?_; rintro e w2 ⟨rfl, g2⟩))
    go_ret
    exact ⟨rfl, gr_none g1 g2⟩
  · have Hok := Lib.hid hok
    clear hok
    go_enter Tryd.func6, Tryd.ntmps6
    have hlen : (inputB n l ++ l.flatMap Ed.row).length + m.length ≤ 70000000000000 := by rw [length_written]; omega
    have hlen2 : (inputB n l ++ l.flatMap Ed.row ++ m).length ≤ 1000000000 := by rw [List.length_append, length_written]; omega
    have hck := check_write Hok.out m
    rw [← List.append_assoc] at hck
    have Hck := Lib.hid hck
    clear hck
    go_wp2_with (first
      | (go_at_call 21; refine Hw.out.mono ?_; rintro e w1 ⟨r1, g1⟩; obtain ⟨A1, c1, rfl, o1⟩ := resW_ok Hok.out r1; have O1 := Lib.hid o1; have hz1 := g1.size; have G1 := Lib.hid g1; clear o1 g1 r1)
      | (at_builtin; refine wp_appB rfl (.tmp 39) (.tmp 40) rfl rfl O1.out rfl (HM.out.ext G1.out) hlen hz1 ?_; intro v2 w2 h2 g2 a2))
    have G2 := own_gr G1.out g2 (Own.lt O1.out)
    have hc := Check_any v2 _ w2 (Hg.out.ext G2) h2.rd hlen2
    unfold ResC4 at hc
    by_cases h0 : m = []
    · subst h0
      rw [Hck.out, if_pos rfl] at hc
      simp only [Flt.e, Flt.p, Option.getD] at hc
      have Hc := Lib.hid hc
      have H2 := Lib.hid G2
      clear hc G2 g2 a2 h2 hlen hlen2
      simp only [List.length_nil]
      go_wp2_with (first
        | (go_at_call 16; refine Hc.out.mono ?_; rintro e w3 ⟨⟨v3, rfl, -⟩, g3⟩)
        | (go_at_call 14; refine (works_any _ (Hg.out.ext (gr_none H2.out g3))).mono ?_; rintro e w4 ⟨rfl, g4⟩))
      go_ret
      exact ⟨rfl, gr_none (gr_none H2.out g3) g4⟩
    · have hm0 : 0 < m.length := List.length_pos_iff.2 h0
      rw [Hck.out, if_neg h0] at hc
      simp only [Flt.e, Flt.p, Option.getD] at hc
      have Hc := Lib.hid hc
      have H2 := Lib.hid G2
      clear hc G2 g2 a2 h2 hlen hlen2 h0
      go_wp2_with (first
        | (go_at_call 16; refine Hc.out.mono ?_; rintro e w3 ⟨⟨v3, rfl, -⟩, g3⟩)
        | (go_at_call 14; refine (works_any _ (Hg.out.ext (gr_none H2.out g3))).mono ?_; rintro e w4 ⟨rfl, g4⟩))
      go_ret
      exact ⟨rfl, gr_none (gr_none H2.out g3) g4⟩
end Go.Proofs.YtikgobndekgjcaaDoor
