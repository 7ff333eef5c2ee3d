/-
  milepostref00: lists with a guard behind them; edges held against each other.
-/
import Derived.Test.YtikgobndekgjcaaDoorWr2
import Derived.Deep.RegionLaw
namespace Go.Proofs.YtikgobndekgjcaaDoor
open Go.RowKit
set_option maxRecDepth 100000
set_option maxHeartbeats 400000

def guardB : List UInt8 := [209, 14, 165, 90, 119, 254, 19]

/-- []byte(s), its world and its room behind names. -/
def byteC (w : World) (l : List UInt8) : Nat := grownCap w l.length 0 5
def byteW (w : World) (l : List UInt8) : World := w.drew.alloc (.cells (bytesRow ⟨l.toArray⟩ (byteC w l)) 5 ((bytesRow ⟨l.toArray⟩ (byteC w l)).size, (bytesRow ⟨l.toArray⟩ (byteC w l)).size + 1))
theorem run_bytes (w : World) (l : List UInt8) : (convert 9 22 (.string ⟨l.toArray⟩)).run Tryd.prog w = .ok (.slice (some ⟨w.heap.size, 0, none⟩) l.length (byteC w l)) (byteW w l) := by
  have hrun := run_bytes_of_string (P := Tryd.prog) w 9 22 5 ⟨l.toArray⟩ Tryd.underlying9 Tryd.underlying22 Tryd.underlying5
  have hsz : (⟨l.toArray⟩ : ByteArray).size = l.length := by simp [ByteArray.size]
  rw [hsz] at hrun
  exact hrun
theorem byteW_gr (w : World) (l : List UInt8) : w.grownBy (byteW w l) none := gr_trans (gr_drew w none) (gr_alloc _ _ none) (.inl rfl)
theorem byteW_own (w : World) (l : List UInt8) (hn : l.length ≤ maxLen) : OwnB (byteW w l) w.heap.size (.slice (some ⟨w.heap.size, 0, none⟩) l.length (byteC w l)) l := by
  have hcap : l.length ≤ byteC w l := grownCap_ge w l.length 0 5
  have hmax : byteC w l ≤ maxLen := grownCap_le_maxLen w l.length 0 5 hn
  unfold byteW
  generalize byteC w l = q at *
  have hs : (bytesRow ⟨l.toArray⟩ q).size = q := by simp [bytesRow, ByteArray.size]; omega
  have e : (bytesRow ⟨l.toArray⟩ q).toList.take (l.length * 1) = l.map u8v := by simp [bytesRow, u8v]
  generalize bytesRow ⟨l.toArray⟩ q = R at hs e
  have := own_lit w.drew w.heap.size 1 l.length q R 5 (R.size, R.size + 1) (.inl (Nat.le_refl _)) (by omega) hcap hmax (Nat.le_refl _)
  rw [e] at this
  exact this

theorem cat_guard (l : List UInt8) : ((⟨l.toArray⟩ : ByteArray) ++ ⟨#[209, 14, 165, 90, 119, 254, 19]⟩) = ⟨(l ++ guardB).toArray⟩ := by
  rw [show (⟨#[209, 14, 165, 90, 119, 254, 19]⟩ : ByteArray) = ⟨guardB.toArray⟩ from rfl, ByteArray.mk_append_mk]
theorem roomy_any (v : Value) (l : List UInt8) (w : World) (h : RdB w v l) (hn : l.length ≤ 1000000000) :
    Calls Tryd.prog 15 #[v] w fun e w' => (∃ A c, e = .returned (.slice A l.length c) ∧ OwnB w' w.heap.size (.slice A (l ++ guardB).length c) (l ++ guardB)) ∧ w.grownBy w' none := by
  obtain ⟨A, c, rfl⟩ := h.form
  have hs0 := run_str (h.ext (gr_drew w none))
  have h7 : ¬ 9223372036854775807 < l.length + 7 := by omega
  have hcat := cat_guard l
  have hgl : (l ++ guardB).length = l.length + 7 := by simp [guardB]
  have H0 : Hid (l ++ guardB = l ++ guardB) := rfl
  generalize l ++ guardB = G at *
  have hG1 : l.length ≤ G.length := by omega
  have hG2 : G.length ≤ l.length + 7 := by omega
  have hmx : G.length ≤ maxLen := by unfold maxLen; omega
  have hq : G.length ≤ byteC w.drew G := grownCap_ge _ _ _ _
  clear h H0 hgl
  go_enter Tryd.func15, Tryd.ntmps15
  go_wp2_with fail
  have hb := fun wx => run_bytes wx G
  go_region_law (go_simp; go_at_call 31; refine (guard_any _).mono ?_; rintro e w' ⟨rfl, rfl⟩)
  all_goals
    go_wp2
    go_ret
    exact ⟨⟨_, _, rfl, byteW_own w.drew G hmx⟩, gr_trans (gr_drew w none) (byteW_gr w.drew G) (.inl rfl)⟩

/-- Kept: does the memory say so, and the guard behind it? -/
theorem kept_any (A : Option Addr) (n c : Nat) (vb : Value) (m l : List UInt8) (w : World) (hm : m.length = n + 7) (h : RdB w (.slice A m.length c) m) (hb : RdB w vb l) (hn : m.length ≤ 1000000000) (hl : l.length ≤ 1000000000) :
    Calls Tryd.prog 19 #[.slice A n c, vb] w fun e w' => e = .returned (.bool (m == l ++ guardB)) ∧ w.grownBy w' none := by
  have hcap := h.cap
  have hs1 := run_str (h.ext (gr_drew w none))
  have hs2 := run_str (hb.ext (gr_drew w none))
  rw [hm] at hs1 hcap
  have h7 : ¬ 9223372036854775807 < l.length + 7 := by omega
  have hcat := cat_guard l
  have hn9 : n ≤ 1000000000 := by omega
  generalize l ++ guardB = G at *
  clear h hb hm
  go_enter Tryd.func19, Tryd.ntmps19
  go_wp2_with (go_at_call 31; refine (guard_any _).mono ?_; rintro e w' ⟨rfl, rfl⟩)
  go_region_law (go_simp; go_at_call 31; refine (guard_any _).mono ?_; rintro e w' ⟨rfl, rfl⟩)
  all_goals
    go_wp2
    go_ret
    exact ⟨rfl, gr_drew _ _⟩
end Go.Proofs.YtikgobndekgjcaaDoor
