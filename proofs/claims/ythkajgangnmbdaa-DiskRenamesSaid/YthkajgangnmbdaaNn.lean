/-
  disk.Names: the walk (slices.Sort at []string as a hypothesis).
-/
import Derived.Test.YthkajgangnmbdaaNm
namespace Go.Proofs.Ythkajgangnmbdaa
open Go.RowKit
set_option maxRecDepth 100000
set_option maxHeartbeats 400000

/-- slices.Sort at []string. -/
def SortS : Prop := ∀ (v : Value) (l : List (List UInt8)) (B : Nat) (w : World), OwnS w B v l → l.length ≤ 1000000 → 0 < l.length → Calls Try.prog 32 #[v] w fun e w' => e = .returned (.tuple #[]) ∧ ∃ l', l'.Perm l ∧ OwnS w' B v l' ∧ w.grownBy w' v.ownBlock
section
variable {w : World} {B d : Nat} {o : Own1} {S : Dk} {c : Con}
set_option maxHeartbeats 4000000 in
theorem names_any (HS : SortS) (h : DI w B o d S c) (hfl : S.fs.length ≤ 1000000) (hfp : 0 < S.fs.length) :
    Calls Try.prog 27 #[.pointer (some ⟨d, 0, none⟩)] w fun e w' => ∃ v l, e = .returned v ∧ OwnS w' w.heap.size v l ∧ l.Perm (S.fs.map Fi.name) ∧ w.grownBy w' none := by
  have hc : w.cell? ⟨d, 0, none⟩ = some (.map (some c.mb)) := h.self.cell 0
  have HF := Lib.hid h.fm
  have HN := Lib.hid h.names
  have hmb : c.mb < w.heap.size := (h.inb _ (by rw [h.tM]; simp)).2
  have HHS := Lib.hid HS
  clear h HS
  go_enter Try.func27, Try.ntmps27
  go_wp2_with (at_range; refine wp_fm_range rfl _ rfl HF.out rfl ?_; intro w0 left0 cnt0 hfr hlft g0 hz0)
  go_frame
  have HFR := Lib.hid hfr
  have HM0 : Hid (Met (domOf S.fs c.fb) left0 []) := Met.start hlft
  have G0 := Lib.hid g0
  have hle : Hid (cnt0 ≤ cnt0) := Nat.le_refl cnt0
  clear hfr hlft g0
  go_loopw [3] (fun v wr => ∃ (left : List UInt8 → Bool) (cnt : Nat) (l : List (List UInt8)), FR wr c.mb w.heap.size S.fs.length (domOf S.fs c.fb) left cnt ∧ Hid (OwnS wr (w.heap.size + 1) v l) ∧ Hid (Met (domOf S.fs c.fb) left l) ∧ w.grownBy wr none ∧ w.heap.size + 1 ≤ wr.heap.size) (fun _ wr => wr.rangeLeft c.mb w.heap.size)
  case atStart => exact ⟨_, _, [], HFR.out, Own.nil _ _ _, HM0.out, G0.out, by omega⟩
  case round =>
    obtain ⟨left, cnt, l, hfr, ho, hm, hg, hz⟩ := hrel
    have hlf := hfr.left_eq
    have HLF := Lib.hid hlf
    have HG := Lib.hid hg
    obtain ⟨A1, c1, rfl⟩ := OwnS.form ho.out
    clear HFR hlf hg
    go_wp2_with (at_next; refine wp_fm_next rfl _ rfl hfr rfl ?_ ?_)
    · intro h0 hl0
      have HP : Hid (l.Perm (S.fs.map Fi.name)) := hm.out.done hl0 HN.out
      have hlen : l.length ≤ 1000000 := by have := HP.out.length_eq; simp at this; omega
      have HSO := Lib.hid (HHS.out _ l _ wr ho.out hlen (by have := HP.out.length_eq; simp at this; omega))
      clear h0 hl0 hfr hm
      go_wp2_with fail
      refine HSO.out.mono ?_
      rintro e w5 ⟨rfl, l5, p5, o5, g5⟩
      have O5 := Lib.hid o5
      have P5 := Lib.hid p5
      have G5 := Lib.hid (gr_trans HG.out g5 (.inr fun q e => Nat.le_trans (Nat.le_succ _) (Own.lt ho.out q e)))
      clear o5 p5 g5
      go_wp2
      go_ret
      exact ⟨_, l5, rfl, Own.mono O5.out (Nat.le_succ _), P5.out.trans HP.out, G5.out⟩
    · intro s b w2 cnt2 hls hds hfr2 hlt2 g2 hz2 hen
      have HM2 : Hid (Met (domOf S.fs c.fb) (fun x => left x && !(x == s)) (l ++ [s])) := hm.out.step hls hds
      have HFR2 := Lib.hid hfr2
      have HO2 := Lib.hid (Own.gr ho.out g2 (fun k e h1 => by cases e; have := Own.lt ho.out _ h1; omega))
      have HG2 := Lib.hid (gr_trans HG.out g2 (.inr fun q e => by cases e; exact Nat.le_refl _))
      have hzz : w.heap.size + 1 ≤ w2.heap.size := by omega
      have hlen : l.length ≤ 1000000 := by
        have h1 := hm.out.1.length_le_of_subset (l₂ := S.fs.map Fi.name) fun y hy => by
          obtain ⟨f, hf⟩ := Option.isSome_iff_exists.1 ((hm.out.2 y).1 hy).1
          unfold domOf at hf
          cases hq : S.fs.find? (fun f => f.name == y) with
          | none => rw [hq] at hf; cases hf
          | some f => exact List.mem_map.2 ⟨f, List.mem_of_find?_eq_some hq, by simpa using List.find?_some hq⟩
        simp at h1
        omega
      clear hfr hls hds hfr2 g2 hm hz2
      go_wp2_with (at_builtin; refine wp_app1S (w := w2) (B := w.heap.size + 1) s _ rfl rfl (.tmp 16) (.tmp 18) rfl rfl HO2.out _ rfl rfl (by omega) hzz ?_; intro v6 w6 h6 g6 a6)
      have H6 := Lib.hid h6
      have hg6 : w.grownBy w6 none := gr_trans HG2.out g6 (.inr fun q e => Nat.le_trans (Nat.le_succ _) (Own.lt HO2.out q e))
      have hr6 : FR w6 c.mb w.heap.size S.fs.length (domOf S.fs c.fb) (fun x => left x && !(x == s)) cnt2 := HFR2.out.gr g6 (fun e => by have := Own.lt HO2.out _ e; have := hmb; omega) (fun e => by have := Own.lt HO2.out _ e; omega)
      have hz6 := g6.size
      go_roundw
      case rel => exact ⟨_, _, _, hr6, H6, HM2, hg6, by omega⟩
      case measure => rw [HLF.out, hr6.left_eq]; exact hlt2
end
end Go.Proofs.Ythkajgangnmbdaa
