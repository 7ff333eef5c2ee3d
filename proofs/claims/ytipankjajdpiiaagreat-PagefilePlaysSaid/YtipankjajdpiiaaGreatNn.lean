/-
  disk.Names: the names collected.
-/
import Derived.Test.YtipankjajdpiiaaGreatRen
import Derived.Sort.EncStr
namespace Go.Proofs.YtipankjajdpiiaaGreat
open Go.RowKit
set_option maxRecDepth 100000
set_option maxHeartbeats 400000

theorem Tryz.infoStr : (Tryz.prog.info? 9).map (fun i => (i.zero, i.size, i.bytes)) = some (some (.string ⟨#[]⟩), 1, 16) := by kernel_rfl
def strL (l : List (List UInt8)) : List Value := l.map fun s => .string ⟨s.toArray⟩
theorem strL_app (l m : List (List UInt8)) : strL (l ++ m) = strL l ++ strL m := by simp [strL]
theorem strL_len (l : List (List UInt8)) : (strL l).length = l.length := by simp [strL]
abbrev OwnS (w : World) (B : Nat) (v : Value) (l : List (List UInt8)) : Prop := Own w B 1 v l.length (strL l)
theorem OwnS.form {w : World} {B : Nat} {v : Value} {l : List (List UInt8)} (h : OwnS w B v l) : ∃ A c, v = .slice A l.length c := by obtain ⟨_, A, c, _, _, e, _⟩ := h; exact ⟨A, c, e⟩
/-- append(v, s). -/
theorem wp_app1S {ops : Array Oper} {rest : List Oper} {o : Oper} {a : Act} {Q : Exit → Act → World → Prop} {w : World} (r : List UInt8) (C : Array Value) (hC : C.toList = strL [r]) (hgd : o.guard = none) (s0 x0 : Operand)
    (ho : o.op = .call { callee := .builtin .append, args := #[s0, x0], argTypes := #[93, 93] }) {B : Nat} {v : Value} {l : List (List UInt8)} (hs : a.eval s0 = v) (hown : OwnS w B v l)
    (g : Nat) (hx : a.eval x0 = .slice (some ⟨g, 0, none⟩) 1 1) (hg : g = w.heap.size) (hn : l.length ≤ 1000000000) (hB : B ≤ w.heap.size)
    (h : ∀ v' w', OwnS w' B v' (l ++ [r]) → w.grownBy w' v.ownBlock → (v'.ownBlock = v.ownBlock ∨ ∃ k, v'.ownBlock = some k ∧ w.heap.size ≤ k) → wpList Tryz.prog ops Q rest (a.put o.dst v') w') :
    wpList Tryz.prog ops Q (o :: rest) a (w.alloc (.cells C 9)) := by
  subst hg
  have hC3 : C.size = 1 := by rw [← Array.length_toList, hC]; rfl
  exact wp_app1 w C hgd s0 x0 _ ho B 9 _ 1 16 Tryz.underlying93 Tryz.infoStr rfl (by omega) v _ _ hs hown hx hC3 (by rw [hC]; intro u hu; simp [strL] at hu; subst hu; rfl) (by unfold maxLen; omega) (by omega) hB
    fun v' w' h1 h2 h3 => h v' w' (by unfold OwnS; rw [List.length_append, strL_app, ← hC]; exact h1) h2 h3
/-- the names met so far. -/
def Met (dom : List UInt8 → Option Nat) (left : List UInt8 → Bool) (l : List (List UInt8)) : Prop := l.Nodup ∧ ∀ s, s ∈ l ↔ (dom s).isSome = true ∧ left s = false
theorem Met.start {dom : List UInt8 → Option Nat} {left : List UInt8 → Bool} (h : ∀ s b, dom s = some b → left s = true) : Met dom left [] := ⟨List.nodup_nil, fun s => ⟨(fun h => by cases h), fun ⟨h1, h2⟩ => by
  obtain ⟨b, hb⟩ := Option.isSome_iff_exists.1 h1
  rw [h s b hb] at h2
  cases h2⟩⟩
theorem Met.step {dom : List UInt8 → Option Nat} {left : List UInt8 → Bool} {l : List (List UInt8)} (h : Met dom left l) {s : List UInt8} {b : Nat} (hl : left s = true) (hd : dom s = some b) : Met dom (fun x => left x && !(x == s)) (l ++ [s]) := by
  have hn : s ∉ l := fun hm => by have := ((h.2 s).1 hm).2; rw [hl] at this; cases this
  refine ⟨List.nodup_append.2 ⟨h.1, by simp, fun a ha c hc => by rw [List.mem_singleton.1 hc]; exact fun e => hn (e ▸ ha)⟩, fun x => ?_⟩
  rw [List.mem_append, List.mem_singleton, h.2]
  by_cases e : x = s
  · subst e
    simp [hd]
  · simp [e]
theorem Met.done {fs : List Fi} {fb : List UInt8 → Nat} {left : List UInt8 → Bool} {l : List (List UInt8)} (h : Met (domOf fs fb) left l) (hl : ∀ s, left s = false) (hN : (fs.map Fi.name).Nodup) : l.Perm (fs.map Fi.name) := by
  rw [List.perm_ext_iff_of_nodup h.1 hN]
  intro s
  rw [h.2, List.mem_map]
  unfold domOf
  constructor
  · rintro ⟨h1, _⟩
    cases hq : fs.find? (fun f => f.name == s) with
    | none => rw [hq] at h1; cases h1
    | some f => exact ⟨f, List.mem_of_find?_eq_some hq, by simpa using List.find?_some hq⟩
  · rintro ⟨f, hf, rfl⟩
    rw [find_mem hN hf]
    exact ⟨rfl, hl _⟩
end Go.Proofs.YtipankjajdpiiaaGreat

/- disk.Names: the walk (slices.Sort at []string as a hypothesis). -/
namespace Go.Proofs.YtipankjajdpiiaaGreat
open Go.RowKit
set_option maxRecDepth 100000
set_option maxHeartbeats 400000

/-- sorted names. -/
def sortN (l : List (List UInt8)) : List (List UInt8) := l.mergeSort fun x y => decide (x ≤ y)
theorem sortN_up (l : List (List UInt8)) : (sortN l).Pairwise fun x y => x ≤ y := by
  have h := List.pairwise_mergeSort (le := fun x y : List UInt8 => decide (x ≤ y)) (fun a b c h1 h2 => by
    simp only [decide_eq_true_eq] at *
    exact List.le_trans h1 h2) (fun a b => by
    simp only [Bool.or_eq_true, decide_eq_true_eq]
    exact List.le_total a b) l
  exact h.imp fun h => by simpa using h
theorem sortN_prm (l : List (List UInt8)) : (sortN l).Perm l := List.mergeSort_perm l _
theorem sortN_eq {l m : List (List UInt8)} (h : l.Perm m) : sortN l = sortN m :=
  List.Perm.eq_of_pairwise (le := fun x y => x ≤ y) (fun _ _ _ _ h1 h2 => List.le_antisymm h1 h2) (sortN_up l) (sortN_up m) (((sortN_prm l).trans h).trans (sortN_prm m).symm)
theorem sortN_nil : sortN [] = [] := by simp [sortN]
/-- nothing is sorted. -/
def SortS0 : Prop := ∀ (w : World), Calls Tryz.prog 91 #[.slice none 0 0] w fun e w' => e = .returned (.tuple #[]) ∧ w.grownBy w' none
/-- slices.Sort at []string. -/
def SortS1 : Prop := ∀ (v : Value) (l : List (List UInt8)) (B : Nat) (w : World), OwnS w B v l → l.length ≤ 1000000 → 0 < l.length → Calls Tryz.prog 91 #[v] w fun e w' => e = .returned (.tuple #[]) ∧ OwnS w' B v (sortN l) ∧ w.grownBy w' v.ownBlock
def SortS : Prop := SortS1 ∧ SortS0
section
variable {w : World} {B d : Nat} {o : Own1} {S : Dk} {c : Con}
set_option maxHeartbeats 4000000 in
theorem names_gen (HS : SortS) (h : DI w B o d S c) (hfl : S.fs.length ≤ 1000000) :
    Calls Tryz.prog 41 #[.pointer (some ⟨d, 0, none⟩)] w fun e w' => ∃ v, e = .returned v ∧ OwnS w' w.heap.size v (sortN (S.fs.map Fi.name)) ∧ w.grownBy w' none := by
  have hc : w.cell? ⟨d, 0, none⟩ = some (.map (some c.mb)) := h.self.cell 0
  have HF := Lib.hid h.fm
  have HN := Lib.hid h.names
  have hmb : c.mb < w.heap.size := (h.inb _ (by rw [h.tM]; simp)).2
  have HHS := Lib.hid HS.1
  have HHS0 := Lib.hid HS.2
  clear h HS
  go_enter Tryz.func41, Tryz.ntmps41
  go_wp2_with (at_range; refine wp_fm_range rfl _ rfl HF.out rfl ?_; intro w0 left0 cnt0 hfr hlft g0 hz0)
  go_frame
  have HFR := Lib.hid hfr
  have HM0 : Hid (Met (domOf S.fs c.fb) left0 []) := Met.start hlft
  have G0 := Lib.hid g0
  have hle : Hid (cnt0 ≤ cnt0) := Nat.le_refl cnt0
  clear hfr hlft g0
  go_loopw [3] (fun v wr => ∃ (left : List UInt8 → Bool) (cnt : Nat) (l : List (List UInt8)), FR wr c.mb w.heap.size S.fs.length (domOf S.fs c.fb) left cnt ∧ Hid (OwnS wr (w.heap.size + 1) v l ∧ (l = [] → v = .slice none 0 0)) ∧ Hid (Met (domOf S.fs c.fb) left l) ∧ w.grownBy wr none ∧ w.heap.size + 1 ≤ wr.heap.size) (fun _ wr => wr.rangeLeft c.mb w.heap.size)
  case atStart => exact ⟨_, _, [], HFR.out, ⟨Own.nil _ _ _, fun _ => rfl⟩, HM0.out, G0.out, by omega⟩
  case round =>
    obtain ⟨left, cnt, l, hfr, ho, hm, hg, hz⟩ := hrel
    have hlf := hfr.left_eq
    have HLF := Lib.hid hlf
    have HG := Lib.hid hg
    have HE0 := Lib.hid ho.out.2
    have ho' : Hid (OwnS wr (w.heap.size + 1) _ l) := ho.out.1
    clear ho
    have ho := ho'
    clear ho'
    obtain ⟨A1, c1, rfl⟩ := OwnS.form ho.out
    clear HFR hlf hg
    go_wp2_with (at_next; refine wp_fm_next rfl _ rfl hfr rfl ?_ ?_)
    · intro h0 hl0
      have HP : Hid (l.Perm (S.fs.map Fi.name)) := hm.out.done hl0 HN.out
      have hlen : l.length ≤ 1000000 := by have := HP.out.length_eq; simp at this; omega
      by_cases hl00 : l.length = 0
      · obtain rfl := List.eq_nil_of_length_eq_zero hl00
        have hv := HE0.out rfl
        rw [hv] at ho ⊢
        have HSO := Lib.hid (HHS0.out wr)
        have HEQ : Hid (sortN (S.fs.map Fi.name) = []) := by show _ = _; rw [← sortN_eq HP.out, sortN_nil]
        clear h0 hl0 hfr hm hl00 hv
        go_wp2_with fail
        refine HSO.out.mono ?_
        rintro e w5 ⟨rfl, g5⟩
        have G5 := Lib.hid (gr_none HG.out g5)
        clear g5
        go_wp2
        go_ret
        exact ⟨_, rfl, by rw [HEQ.out]; exact Own.nil _ _ _, G5.out⟩
      · have HSO := Lib.hid (HHS.out _ l _ wr ho.out hlen (by omega))
        have HEQ : Hid (sortN l = sortN (S.fs.map Fi.name)) := sortN_eq HP.out
        clear h0 hl0 hfr hm hl00
        go_wp2_with fail
        refine HSO.out.mono ?_
        rintro e w5 ⟨rfl, o5, g5⟩
        obtain ⟨nq, hnq⟩ : ∃ nq, nq = l.length := ⟨_, rfl⟩
        have O5 := Lib.hid o5
        have G5 := Lib.hid (gr_trans HG.out g5 (.inr fun q e => Nat.le_trans (Nat.le_succ _) (Own.lt ho.out q e)))
        clear o5 g5
        go_wp2
        go_ret
        exact ⟨_, rfl, by rw [← HEQ.out]; exact Own.mono O5.out (Nat.le_succ _), G5.out⟩
    · intro s b w2 cnt2 hls hds hfr2 hlt2 g2 hz2 hen
      have HM2 : Hid (Met (domOf S.fs c.fb) (fun x => left x && !(x == s)) (l ++ [s])) := hm.out.step hls hds
      have HFR2 := Lib.hid hfr2
      have HO2 := Lib.hid (Own.gr ho.out g2 (fun k e h1 => by cases e; have := Own.lt ho.out _ h1; omega))
      have HG2 := Lib.hid (gr_trans HG.out g2 (.inr fun q e => by cases e; exact Nat.le_refl _))
      have hzz : w.heap.size + 1 ≤ w2.heap.size := by omega
      have hlen : l.length ≤ 1000000 := by
        have h1 := hm.out.1.length_le_of_subset (l₂ := S.fs.map Fi.name) fun y hy => by
          obtain ⟨f, hf⟩ := Option.isSome_iff_exists.1 ((hm.out.2 y).1 hy).1
          unfold domOf at hf
          cases hq : S.fs.find? (fun f => f.name == y) with
          | none => rw [hq] at hf; cases hf
          | some f => exact List.mem_map.2 ⟨f, List.mem_of_find?_eq_some hq, by simpa using List.find?_some hq⟩
        simp at h1
        omega
      clear hfr hls hds hfr2 g2 hm hz2
      go_wp2_with (at_builtin; refine wp_app1S (w := w2) (B := w.heap.size + 1) s _ rfl rfl (.tmp 16) (.tmp 18) rfl rfl HO2.out _ rfl rfl (by omega) hzz ?_; intro v6 w6 h6 g6 a6)
      have H6 : Hid (OwnS w6 (w.heap.size + 1) v6 (l ++ [s]) ∧ (l ++ [s] = [] → v6 = .slice none 0 0)) := ⟨h6, fun e => by simp at e⟩
      have hg6 : w.grownBy w6 none := gr_trans HG2.out g6 (.inr fun q e => Nat.le_trans (Nat.le_succ _) (Own.lt HO2.out q e))
      have hr6 : FR w6 c.mb w.heap.size S.fs.length (domOf S.fs c.fb) (fun x => left x && !(x == s)) cnt2 := HFR2.out.gr g6 (fun e => by have := Own.lt HO2.out _ e; have := hmb; omega) (fun e => by have := Own.lt HO2.out _ e; omega)
      have hz6 := g6.size
      go_roundw
      case rel => exact ⟨_, _, _, hr6, H6, HM2, hg6, by omega⟩
      case measure => rw [HLF.out, hr6.left_eq]; exact hlt2
theorem names_any (HS : SortS) (h : DI w B o d S c) (hfl : S.fs.length ≤ 1000000) (_hfp : 0 < S.fs.length) :
    Calls Tryz.prog 41 #[.pointer (some ⟨d, 0, none⟩)] w fun e w' => ∃ v l, e = .returned v ∧ OwnS w' w.heap.size v l ∧ l.Perm (S.fs.map Fi.name) ∧ w.grownBy w' none :=
  (names_gen HS h hfl).mono fun _ _ ⟨v, e1, k1, k2⟩ => ⟨v, _, e1, k1, sortN_prm _, k2⟩
end
end Go.Proofs.YtipankjajdpiiaaGreat
