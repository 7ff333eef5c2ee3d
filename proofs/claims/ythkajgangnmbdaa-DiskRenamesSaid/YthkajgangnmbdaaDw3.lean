/-
  A disk's Used.
-/
import Derived.Test.YthkajgangnmbdaaDw2
namespace Go.Proofs.Ythkajgangnmbdaa
open Go.RowKit
set_option maxRecDepth 100000
set_option maxHeartbeats 400000

def usedBut (fs : List Fi) (left : List UInt8 → Bool) : Nat := ((fs.filter fun f => !left f.name).map fun f => sectors f.now.length).sum
theorem usedBut_all (fs : List Fi) {left : List UInt8 → Bool} (h : ∀ f ∈ fs, left f.name = true) : usedBut fs left = 0 := by
  unfold usedBut
  rw [List.filter_eq_nil_iff.2 (fun f hf => by rw [h f hf]; simp)]
  rfl
theorem usedBut_none (fs : List Fi) {left : List UInt8 → Bool} (h : ∀ s, left s = false) : usedBut fs left = (fs.map fun f => sectors f.now.length).sum := by
  unfold usedBut
  rw [List.filter_eq_self.2 (fun f _ => by rw [h]; rfl)]
theorem usedBut_step {fs : List Fi} (hn : (fs.map Fi.name).Nodup) {left : List UInt8 → Bool} {f : Fi} (hf : f ∈ fs) (hl : left f.name = true) : usedBut fs (fun x => left x && !(x == f.name)) = usedBut fs left + sectors f.now.length := by
  induction fs with
  | nil => cases hf
  | cons a l ih =>
    rw [List.map_cons, List.nodup_cons] at hn
    unfold usedBut at ih ⊢
    by_cases e : a = f
    · subst e
      have hsame : (l.filter fun g => !(left g.name && !(g.name == a.name))) = l.filter fun g => !left g.name := List.filter_congr fun g hg => by
        have : g.name ≠ a.name := fun e => hn.1 (List.mem_map.2 ⟨g, hg, e⟩)
        simp [this]
      simp only [List.filter_cons]
      rw [hsame, hl]
      simp
      omega
    · have hfl : f ∈ l := by
        rcases List.mem_cons.1 hf with h | h
        · exact absurd h.symm e
        · exact h
      have hne : a.name ≠ f.name := fun e2 => hn.1 (List.mem_map.2 ⟨f, hfl, e2.symm⟩)
      have hq : (a.name == f.name) = false := by simpa using hne
      have := ih hn.2 hfl
      simp only [List.filter_cons, hq]
      cases left a.name
      · simp at this ⊢; omega
      · simp at this ⊢; omega
theorem usedBut_le {fs : List Fi} (h : ∀ f ∈ fs, f.now.length ≤ 16777216) (left : List UInt8 → Bool) : usedBut fs left ≤ fs.length * 262144 := by
  induction fs with
  | nil => simp [usedBut]
  | cons a l ih =>
    have h1 := ih fun f hf => h f (List.mem_cons_of_mem _ hf)
    have h2 := h a (List.mem_cons_self ..)
    unfold usedBut at h1 ⊢
    have h3 : sectors a.now.length ≤ 262144 := by unfold sectors; omega
    simp only [List.filter_cons]
    split
    · rw [List.map_cons, List.sum_cons, List.length_cons, Nat.add_mul]; omega
    · rw [List.length_cons, Nat.add_mul]; exact Nat.le_trans h1 (Nat.le_add_right _ _)
theorem domOf_inv {fs : List Fi} {fb : List UInt8 → Nat} {s : List UInt8} {b : Nat} (h : domOf fs fb s = some b) : ∃ f ∈ fs, f.name = s ∧ b = fb s := by
  unfold domOf at h
  cases hq : fs.find? (fun f => f.name == s) with
  | none => rw [hq] at h; cases h
  | some f =>
    rw [hq] at h
    exact ⟨f, List.mem_of_find?_eq_some hq, by simpa using List.find?_some hq, by simpa using h.symm⟩
section
variable {w : World} {B d : Nat} {o : Own1} {S : Dk} {c : Con}
theorem used_nil (w : World) : Calls Try.prog 17 #[.pointer none] w fun e w' => e = .returned (.int .i64 0) ∧ w = w' := by
  go_enter Try.func17, Try.ntmps17
  go_wp2
  go_ret
  exact ⟨rfl, rfl⟩
set_option maxHeartbeats 1000000 in
theorem used_any (h : DI w B o d S c) (hfl : S.fs.length ≤ 1000000) : Calls Try.prog 17 #[.pointer (some ⟨d, 0, none⟩)] w fun e w' => e = .returned (.int .i64 S.used) ∧ w.grownBy w' none := by
  have hc := h.self.cell
  have hfm := h.fm
  unfold selfC at hc
  have H := Lib.hid h
  clear h
  go_enter Try.func17, Try.ntmps17
  go_wp2_with (first | (at_range; refine wp_fm_range rfl _ rfl hfm rfl ?_; intro w0 left cnt hlr hall g0 hz0) | go_in)
  go_frame
  clear hfm
  have HLR := Lib.hid hlr
  have HALL := Lib.hid hall
  have G0 := Lib.hid g0
  clear hlr g0 hall
  go_loopw [3, 5] (fun u _ wr => ∃ (left : List UInt8 → Bool) (cnt : Nat), FR wr c.mb w.heap.size S.fs.length (domOf S.fs c.fb) left cnt ∧ w.grownBy wr none ∧ u = .int .i64 (usedBut S.fs left)) (fun _ _ wr => wr.rangeLeft c.mb w.heap.size)
  case atStart => exact ⟨_, _, HLR.out, G0.out, by rw [usedBut_all S.fs fun f hf => HALL.out f.name _ (by unfold domOf; rw [find_mem H.out.names hf]; rfl)]; rfl⟩
  case round =>
    obtain ⟨left, cnt, hlr, hgr, rfl⟩ := hrel
    have hlt := hlr.lt
    have hleft := hlr.left_eq
    have HL0 := Lib.hid hleft
    have HR := Lib.hid hgr
    have hub := usedBut_le (fun f hf => (H.out.file f hf).small.2.1) left
    clear hleft hgr
    go_wp2_with (first | (at_next; refine wp_fm_next rfl _ rfl hlr rfl ?_ ?_) | go_in)
    · intro h0 hl0
      have hend : Hid (usedBut S.fs left = S.used) := usedBut_none S.fs hl0
      clear hl0 hlr
      go_wp2
      go_ret
      exact ⟨by rw [← hend.out]; rfl, HR.out⟩
    · intro s b w2 cnt2 hls hdom hlr2 hlt2 g2 hz2 hen
      obtain ⟨f, hf, rfl, rfl⟩ := domOf_inv hdom
      have g02 : w.grownBy w2 none := gr_trans HR.out g2 (.inr fun q e => by cases e; exact Nat.le_refl _)
      have hfile := (H.out.ext g02).file f hf
      have hfc := hfile.box.cell 0
      obtain ⟨A, cp, hv⟩ := hfile.now.rd.form
      have hfc' : w2.cell? ⟨c.fb f.name, 0, none⟩ = some (.slice A f.now.length cp) := by rw [← hv]; exact hfc
      have hsm := hfile.small
      have hst := usedBut_step H.out.names hf hls
      have hrel2 : Hid (Value.int .i64 ((usedBut S.fs left : Nat) + (sectors f.now.length : Nat) : Int) = .int .i64 (usedBut S.fs (fun x => left x && !(x == f.name)) : Nat)) := by
        show _ = _
        rw [hst]; simp
      have HLR2 := Lib.hid hlr2
      have G02 := Lib.hid g02
      have hcnt : Hid (w2.rangeLeft c.mb w.heap.size < wr.rangeLeft c.mb w.heap.size) := by
        show _ < _
        rw [hlr2.left_eq, HL0.out]; exact hlt2
      have hsl : sectors f.now.length ≤ 262144 := by unfold sectors; omega
      clear hfile hfc hv hst hlr2 g02 hls hdom g2 hlr
      go_wp2_with (first | (go_at_call 20; refine (sectors_any _ _ (by omega) (by omega)).mono ?_; rintro e w9 ⟨rfl, rfl⟩; rw [Int.toNat_natCast]) | go_in)
      go_roundw
      case rel => exact ⟨_, _, HLR2.out, G02.out, hrel2.out⟩
      case measure => exact hcnt.out
end
end Go.Proofs.Ythkajgangnmbdaa
