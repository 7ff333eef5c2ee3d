/-
  Hub: a shelf of labels in memory; a vertex' labels; what is more than a statement goes through.
-/
import Derived.Test.YtfgkmimhibpceaaHr
namespace Go.Proofs.Ytfgkmimhibpceaa
open Go.RowKit
set_option maxRecDepth 100000
set_option maxHeartbeats 400000

structure Ow where
  v : UInt32
  s : Value
  l : List Lb
def Ow.enc (x : Ow) : List Value := [.int .u32 x.v.toNat, x.s]
theorem ow2 (x : Ow) : x.enc.length = 2 := rfl
/-- a shelf in memory. -/
def RdS (w : World) (v : Value) (all : List Ow) : Prop := RdG Ow.enc 2 w v all ∧ ∀ x ∈ all, RdL w x.s x.l
theorem RdS.ext {w w' : World} {v : Value} {all : List Ow} (h : RdS w v all) (hg : w.grownBy w' none) : RdS w' v all := ⟨h.1.ext hg, fun x hx => (h.2 x hx).ext hg⟩
def ofS : List Ow → UInt32 → List Lb
  | [], _ => []
  | x :: r, v => if x.v = v then x.l else ofS r v
theorem ofS_found {all : List Ow} {k : Nat} (hk : k < all.length) {v : UInt32} (hn : ∀ i (h : i < all.length), i < k → all[i].v ≠ v) (he : all[k].v = v) : ofS all v = all[k].l := by
  induction all generalizing k with
  | nil => simp at hk
  | cons x r ih =>
    cases k with
    | zero => simp only [ofS]; rw [if_pos (by simpa using he)]; rfl
    | succ k =>
      have h0 := hn 0 (by simp) (by omega)
      simp only [ofS]
      rw [if_neg (by simpa using h0)]
      exact ih (by simpa using hk) (fun i h hi => hn (i + 1) (by simpa using h) (by omega)) he
theorem ofS_none {all : List Ow} {v : UInt32} (hn : ∀ i (h : i < all.length), i < all.length → all[i].v ≠ v) : ofS all v = [] := by
  induction all with
  | nil => rfl
  | cons x r ih =>
    have h0 := hn 0 (by simp) (by simp)
    simp only [ofS]
    rw [if_neg (by simpa using h0)]
    exact ih fun i h _ => hn (i + 1) (by simpa using h) (by simpa using h)
theorem ofS_mem (all : List Ow) (v : UInt32) : ofS all v = [] ∨ ∃ x ∈ all, ofS all v = x.l := by
  induction all with
  | nil => exact .inl rfl
  | cons x r ih =>
    simp only [ofS]
    by_cases h : x.v = v
    · rw [if_pos h]; exact .inr ⟨x, by simp, rfl⟩
    · rw [if_neg h]
      rcases ih with h | ⟨y, hy, e⟩
      · exact .inl h
      · exact .inr ⟨y, by simp [hy], e⟩
def NotTo (all : List Ow) (v : UInt32) (k : Nat) : Prop := ∀ i (h : i < all.length), i < k → all[i].v ≠ v
theorem at2S {w wx : World} {g off : Nat} {l : List Ow} (hc : ∀ k (hk : k < l.length), ∀ j, j < 2 → w.cell? ⟨g, off + k * 2 + j, none⟩ = (l[k].enc)[j]?) (hg : w.grownBy wx none) {k : Nat} (hk : k < l.length) {a : UInt32} {s : Value} {m : List Lb} (e : l[k] = ⟨a, s, m⟩) :
    wx.cell? ⟨g, off + k * 2, none⟩ = some (.int .u32 a.toNat) ∧ wx.cell? ⟨g, off + k * 2 + 1, none⟩ = some s := by
  have h0 := hc k hk 0 (by omega)
  have h1 := hc k hk 1 (by omega)
  rw [e] at h0 h1
  exact ⟨hg.cell h0 (by simp), hg.cell h1 (by simp)⟩
theorem ofr_any (v : Value) (all : List Ow) (x : UInt32) (w : World) (h : RdS w v all) (hn : all.length ≤ 1000000000) :
    Calls Try.prog 24 #[v, .int .u32 x.toNat] w fun e w' => (∃ u, e = .returned u ∧ RdL w' u (ofS all x)) ∧ w.grownBy w' none := by
  obtain ⟨A, c, rfl⟩ := h.1.form
  obtain ⟨g, off, hA, _, hcells⟩ := h.1.at_ ow2
  have HA := Lib.hid hA
  have HC := Lib.hid hcells
  have HL := Lib.hid h.2
  clear hA hcells h
  go_enter Try.func24, Try.ntmps24
  go_wp2
  go_loopw [5] (fun i wr => ∃ k : Nat, k ≤ all.length ∧ i = .int .i64 k ∧ NotTo all x k ∧ w.grownBy wr none) (fun i _ => all.length - (intOf i).toNat)
  case atStart => exact ⟨0, by omega, rfl, fun _ _ h => by omega, gr_refl _ _⟩
  case round =>
    obtain ⟨k, hk, rfl, hall, hg⟩ := hrel
    have Hall := Lib.hid hall
    clear hall
    by_cases hlt : k < all.length
    · have := HA.out (by omega)
      subst this
      rcases hx : all[k] with ⟨xa, xs, xl⟩
      obtain ⟨c0, c1⟩ := at2S HC.out hg hlt hx
      have HXL : Hid (RdL w xs xl) := by have := HL.out _ (List.getElem_mem hlt); rw [hx] at this; exact this
      have Hx := Lib.hid hx
      obtain ⟨A2, c2, rfl⟩ := HXL.out.form
      clear hx
      by_cases he : xa.toNat = x.toNat
      · have HE : Hid (ofS all x = xl) := by
          show _ = _
          rw [ofS_found hlt Hall.out (by rw [Hx.out]; exact UInt32.toNat_inj.1 he), Hx.out]
        go_wp2
        go_ret
        exact ⟨⟨_, rfl, by rw [HE.out]; exact HXL.out.ext hg⟩, hg⟩
      · have HN : Hid (NotTo all x (k + 1)) := fun i h hi => by
          by_cases e : i = k
          · subst e; rw [Hx.out]; exact fun e => he (by rw [← e])
          · exact Hall.out i h (by omega)
        go_wp2
        go_roundw
        case rel => exact ⟨k + 1, by omega, by go_num, HN.out, hg⟩
        case measure => simp [intOf]; omega
    · obtain rfl : k = all.length := by omega
      have HE : Hid (ofS all x = []) := ofS_none Hall.out
      go_wp2
      go_ret
      exact ⟨⟨_, rfl, by rw [HE.out]; exact RdG.nil _ _ _⟩, hg⟩
/-- a shelf's Of: in new memory. -/
theorem of_any (sp : Nat) (v : Value) (all : List Ow) (x : UInt32) (w : World) (hs : w.cell? ⟨sp, 0, none⟩ = some v) (h : RdS w v all) (hn : all.length ≤ 1000000000) (hm : (ofS all x).length ≤ 1000000000) :
    Calls Try.prog 15 #[.pointer (some ⟨sp, 0, none⟩), .int .u32 x.toNat] w fun e w' => (∃ u, e = .returned u ∧ OwnL w' w.heap.size u (ofS all x)) ∧ w.grownBy w' none := by
  have HO := Lib.hid (ofr_any v all x w h hn)
  obtain ⟨A, c, rfl⟩ := h.1.form
  clear h
  generalize ofS all x = L at *
  go_enter Try.func15, Try.ntmps15
  go_wp2_with (first
    | (go_at_call 24; refine HO.out.mono ?_; rintro e w1 ⟨⟨u, rfl, hu⟩, g1⟩; have HU := Lib.hid hu; have G1 := Lib.hid g1; have hz := g1.size; clear hu g1)
    | (at_builtin; refine wp_appL (l := []) rfl (.tmp 6) (.tmp 12) rfl rfl (OwnG.nil _ _ _ w.heap.size) rfl HU.out (by simp; omega) hz ?_; intro v2 w2 h2 g2 a2))
  go_ret
  exact ⟨⟨_, rfl, h2⟩, gr_none G1.out g2⟩
def sumM (l : List Ow) : Nat := (l.map fun x => min x.l.length 1000).sum
theorem sumM_succ {l : List Ow} {k : Nat} (hk : k < l.length) : sumM (l.take (k + 1)) = sumM (l.take k) + min l[k].l.length 1000 := by
  unfold sumM
  rw [List.take_succ_eq_append_getElem hk, List.map_append, List.sum_append]; simp
theorem sumM_le (l : List Ow) : ∀ x ∈ l, min x.l.length 1000 ≤ sumM l := by
  induction l with
  | nil => intro x h; cases h
  | cons a r ih =>
    intro x hx
    have e : sumM (a :: r) = min a.l.length 1000 + sumM r := by simp [sumM]
    rw [e]
    rcases List.mem_cons.1 hx with rfl | h
    · omega
    · have := ih x h; omega
theorem large_any (v : Value) (all : List Ow) (w : World) (h : RdS w v all) :
    Calls Try.prog 11 #[v] w fun e w' => (∃ b, e = .returned (.bool b) ∧ (b = false → all.length + sumM all ≤ 600)) ∧ w.grownBy w' none := by
  have hmax : all.length ≤ maxLen := by obtain ⟨_, _, _, _, _, _, h1, h2, _⟩ := h.1; omega
  unfold maxLen at hmax
  obtain ⟨A, c, rfl⟩ := h.1.form
  obtain ⟨g, off, hA, _, hcells⟩ := h.1.at_ ow2
  have HA := Lib.hid hA
  have HC := Lib.hid hcells
  have HL := Lib.hid h.2
  clear hA hcells h
  go_enter Try.func11, Try.ntmps11
  go_wp2
  go_loopw [3, 4] (fun n i wr => ∃ (k : Nat) (m : Nat), k ≤ all.length ∧ i = .int .i64 k ∧ n = .int .i64 m ∧ m = all.length + sumM (all.take k) ∧ (k = 0 ∨ m ≤ 1600) ∧ w.grownBy wr none) (fun _ i _ => all.length - (intOf i).toNat)
  case atStart => exact ⟨0, all.length, by omega, rfl, rfl, by simp [sumM], .inl rfl, gr_refl _ _⟩
  case round =>
    obtain ⟨k, m, hk, rfl, rfl, hm, hm2, hg⟩ := hrel
    have HM := Lib.hid hm
    clear hm
    by_cases hin : k < all.length ∧ m ≤ 600
    · obtain ⟨hlt, h6⟩ := hin
      have := HA.out (by omega)
      subst this
      have HS := Lib.hid (sumM_succ hlt)
      rcases hx : all[k] with ⟨xa, xs, xl⟩
      obtain ⟨-, c1⟩ := at2S HC.out hg hlt hx
      have HXL : Hid (RdL w xs xl) := by have := HL.out _ (List.getElem_mem hlt); rw [hx] at this; exact this
      have Hx := Lib.hid hx
      obtain ⟨A2, c2, rfl⟩ := HXL.out.form
      have hxb : xl.length ≤ 9223372036854775807 := by obtain ⟨_, _, _, _, _, _, h1, h2, _⟩ := HXL.out; unfold maxLen at h2; omega
      clear hx hm2
      by_cases h1000 : xl.length ≤ 1000
      · have HQ : Hid (m + xl.length = all.length + sumM (all.take (k + 1))) := by show _ = _; rw [HS.out, Hx.out, HM.out]; simp only []; omega
        go_wp2
        go_roundw
        case rel => exact ⟨k + 1, m + xl.length, by omega, by go_num, by go_num, HQ.out, .inr (by omega), hg⟩
        case measure => simp [intOf]; omega
      · have HQ : Hid (m + 1000 = all.length + sumM (all.take (k + 1))) := by show _ = _; rw [HS.out, Hx.out, HM.out]; simp only []; omega
        go_wp2
        go_roundw
        case rel => exact ⟨k + 1, m + 1000, by omega, by go_num, by go_num, HQ.out, .inr (by omega), hg⟩
        case measure => simp [intOf]; omega
    · by_cases h6 : m ≤ 600
      · have hke : k = all.length := by omega
        have HE : Hid (all.length + sumM all ≤ 600) := by
          have e := HM.out
          rw [hke, List.take_length] at e
          show _ ≤ _
          omega
        clear hin hm2
        subst hke
        go_wp2
        go_ret
        exact ⟨⟨_, rfl, fun _ => HE.out⟩, hg⟩
      · have hmb : m ≤ 9223372036854775807 := by
          rcases hm2 with rfl | h
          · have e := HM.out
            simp [sumM] at e
            omega
          · omega
        clear hin hm2
        go_wp2
        all_goals
          go_ret
          exact ⟨⟨_, rfl, fun h => by first | (simp at h; done) | (simp at h; omega)⟩, hg⟩
end Go.Proofs.Ytfgkmimhibpceaa
