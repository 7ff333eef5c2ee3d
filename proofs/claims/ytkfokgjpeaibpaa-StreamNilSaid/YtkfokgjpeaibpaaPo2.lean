/-
  pool: onDisk, Pages.
-/
import Derived.Test.YtkfokgjpeaibpaaPo1
namespace Go.Proofs.Ytkfokgjpeaibpaa
open Go.RowKit Go.Maps
set_option maxRecDepth 100000
set_option maxHeartbeats 400000

section
variable {w w' : World} {B d p g mb nm : Nat} {o o' : Own1} {P : Pl} {S : Dk} {c : Con} {n : List UInt8}
/-- how many pages the disk has of a file. -/
def Dk.pgs (S : Dk) (n : List UInt8) : Nat × Nat := if (S.size n).2 ≠ 0 then (0, (S.size n).2) else if (S.size n).1 % 256 ≠ 0 then (0, 7) else ((S.size n).1 / 256, 0)
def POpenO (o : Own1) (d : Nat) (n : List UInt8) (X : Nat × Nat) (w : World) (e : Ending) (w' : World) : Prop := w.grownBy w' none ∧
  ((X.2 ≠ 0 ∧ e = .returned (.tuple #[.pointer none, .int .i64 X.2])) ∨ (X.2 = 0 ∧ ∃ pf, e = .returned (.tuple #[.pointer (some ⟨pf, 0, none⟩), .int .i64 0]) ∧ w.heap.size ≤ pf ∧ PfR w' w.heap.size o d pf n))
def OnDiskO (o : Own1) (d : Nat) (n : List UInt8) (X : Nat × Nat) (w : World) (e : Ending) (w' : World) : Prop := w.grownBy w' none ∧
  ((X.2 ≠ 0 ∧ e = .returned (.tuple #[.pointer none, .int .i64 0, .int .i64 X.2])) ∨ (X.2 = 0 ∧ ∃ pf, e = .returned (.tuple #[.pointer (some ⟨pf, 0, none⟩), .int .i64 X.1, .int .i64 0]) ∧ w.heap.size ≤ pf ∧ PfR w' w.heap.size o d pf n))
def PagesO (X : Nat × Nat) (m : Int) (w : World) (e : Ending) (w' : World) : Prop := w.grownBy w' none ∧
  ((X.2 ≠ 0 ∧ e = .returned (.tuple #[.int .i64 0, .int .i64 X.2])) ∨ (X.2 = 0 ∧ e = .returned (.tuple #[.int .i64 m, .int .i64 0])))
theorem popen_gen (h : DI w B o d S c) (hn : n.length ≤ 1000000000) :
    Calls Try.prog 52 #[.pointer (some ⟨d, 0, none⟩), .string ⟨n.toArray⟩] w (POpenO o d n (S.pgs n) w) := by
  have hz := size_le h n
  have HS := Lib.hid (size_any h n hn)
  have HM := Lib.hid (made_any d n hn)
  have HF : Hid (∀ i, w.heap.size ≤ i → o i = none) := fun i hi => by
    cases e : o i with
    | none => rfl
    | some t => exact absurd (h.inb i (by rw [e]; simp)).2 (by omega)
  clear h
  obtain ⟨Y, hY⟩ : ∃ Y, Y = S.pgs n := ⟨_, rfl⟩
  rw [← hY]
  unfold Dk.pgs at hY
  obtain ⟨X, hX⟩ : ∃ X, X = S.size n := ⟨_, rfl⟩
  rw [← hX] at hz HS hY
  obtain ⟨a, e⟩ := X
  simp only [] at hz HS hY
  clear hX
  by_cases he : e = 0
  · subst he
    rw [if_neg (by simp)] at hY
    by_cases hm : a % 256 = 0
    · have hm2 : ((a : Int) % 256 != 0) = false := by rw [bne_eq_false_iff_eq]; omega
      have hr : IntKind.i64.wrap ((a : Int) % 256) = (a : Int) % 256 := by rw [IntWalk.i64_in _ (by omega)]
      rw [if_neg (by rw [hm]; simp)] at hY
      subst hY
      clear hm
      go_enter Try.func52, Try.ntmps52
      go_wp2_with fail
      refine HS.out.mono ?_
      rintro e w1 ⟨rfl, g1⟩
      have G1 := Lib.hid g1
      clear g1 HS
      go_wp2_with fail
      refine (HM.out _).mono ?_
      rintro e w2 ⟨pf, rfl, hpf, hb, g2⟩
      have HPF := Lib.hid hpf
      have HB := Lib.hid hb
      have G2 := Lib.hid g2
      clear hpf hb g2
      go_wp2
      go_ret2
      exact ⟨gr_none G1.out G2.out, .inr ⟨rfl, pf, rfl, Nat.le_trans G1.out.size HPF.out, HB.out, HF.out _ (Nat.le_trans G1.out.size HPF.out), Nat.le_trans G1.out.size HPF.out⟩⟩
    · have hm2 : ((a : Int) % 256 != 0) = true := by rw [bne_iff_ne]; omega
      have hr : IntKind.i64.wrap ((a : Int) % 256) = (a : Int) % 256 := by rw [IntWalk.i64_in _ (by omega)]
      rw [if_pos hm] at hY
      subst hY
      clear hm
      go_enter Try.func52, Try.ntmps52
      go_wp2_with fail
      refine HS.out.mono ?_
      rintro e w1 ⟨rfl, g1⟩
      have G1 := Lib.hid g1
      clear g1 HS
      go_wp2
      go_ret2
      exact ⟨G1.out, .inl ⟨by simp, rfl⟩⟩
  · have hne : ((e : Int) != 0) = true := by rw [bne_iff_ne]; omega
    have HX : Hid (e ≠ 0) := he
    rw [if_pos he] at hY
    subst hY
    clear he
    go_enter Try.func52, Try.ntmps52
    go_wp2_with fail
    refine HS.out.mono ?_
    rintro e w1 ⟨rfl, g1⟩
    have G1 := Lib.hid g1
    clear g1 HS
    go_wp2
    go_ret2
    exact ⟨G1.out, .inl ⟨HX.out, rfl⟩⟩
theorem pgs_ppages (h : (S.pgs n).2 = 0) : S.ppages n = S.pgs n := by
  unfold Dk.pgs at h ⊢
  unfold Dk.ppages
  split at h
  · next h1 => exact absurd h h1
  · next h1 =>
    split at h
    · cases h
    · next h2 =>
      rw [if_neg h1, if_neg h2]
      have : (S.size n).2 = 0 := by simpa using h1
      rw [this]
theorem onDisk_any (h : DI w B o d S c) (hp : PoR w B o d p g mb P nm) (hn : n.length ≤ 1000000000) :
    Calls Try.prog 33 #[.pointer (some ⟨p, 0, none⟩), .string ⟨n.toArray⟩] w (OnDiskO o d n (S.pgs n) w) := by
  obtain ⟨s0, -⟩ := hp.selfc
  have HO := Lib.hid (popen_gen h hn)
  have H := Lib.hid h
  clear h hp
  go_enter Try.func33, Try.ntmps33
  go_wp2_with fail
  refine HO.out.mono ?_
  rintro e w1 ⟨g1, ⟨he, rfl⟩ | ⟨he, pf, rfl, hpf, hpr⟩⟩
  · have G1 := Lib.hid g1
    have HE := Lib.hid he
    have hne : (((S.pgs n).2 : Int) != 0) = true := by rw [bne_iff_ne]; omega
    clear g1 he HO
    go_wp2
    go_ret3
    exact ⟨G1.out, .inl ⟨HE.out, rfl⟩⟩
  · have G1 := Lib.hid g1
    have HE := Lib.hid he
    have HPF := Lib.hid hpf
    have hpg := pages_any (H.out.ext g1) (⟨hpr.box, hpr.free, Nat.le_trans H.out.base hpr.pB⟩ : PfR w1 B o d pf n) hn
    rw [pgs_ppages he, he] at hpg
    have HPG := Lib.hid hpg
    have HPR := Lib.hid hpr
    clear g1 he HO hpf hpg hpr
    go_wp2_with fail
    refine HPG.out.mono ?_
    rintro e w2 ⟨rfl, g2⟩
    have G2 := Lib.hid g2
    clear g2
    go_wp2
    go_ret3
    exact ⟨gr_none G1.out G2.out, .inr ⟨HE.out, pf, rfl, HPF.out, HPR.out.ext G2.out⟩⟩
def pagesN (fr : List Fr) (n : List UInt8) (n0 : Int) : Int := fr.foldl (fun m f => if f.full && (f.dirty && f.n == n) then max m (f.k + 1) else m) n0
theorem pagesN_succ {fr : List Fr} {i : Nat} (hi : i < fr.length) (n : List UInt8) (n0 : Int) : pagesN (fr.take (i + 1)) n n0 = if fr[i].full && (fr[i].dirty && fr[i].n == n) then max (pagesN (fr.take i) n n0) (fr[i].k + 1) else pagesN (fr.take i) n n0 := by
  unfold pagesN
  rw [List.take_succ_eq_append_getElem hi, List.foldl_append]
  rfl
theorem pagesN_le {fr : List Fr} {n : List UInt8} {n0 m : Int} (h0 : n0 ≤ m) (h : ∀ f ∈ fr, f.k + 1 ≤ m) : n0 ≤ pagesN fr n n0 ∧ pagesN fr n n0 ≤ m := by
  unfold pagesN
  induction fr generalizing n0 with
  | nil => exact ⟨Int.le_refl _, h0⟩
  | cons f fr ih =>
    have h1 := h f (by simp)
    rw [List.foldl_cons]
    by_cases hc : (f.full && (f.dirty && f.n == n)) = true
    · rw [if_pos hc]
      have := ih (n0 := max n0 (f.k + 1)) (by omega) (fun x hx => h x (by simp [hx]))
      omega
    · rw [if_neg hc]
      exact ih h0 (fun x hx => h x (by simp [hx]))
set_option maxHeartbeats 4000000 in
theorem ppages_any (h : DI w B o d S c) (hp : PoR w B o d p g mb P nm) (hn : n.length ≤ 1000000000) :
    Calls Try.prog 10 #[.pointer (some ⟨p, 0, none⟩), .string ⟨n.toArray⟩] w (PagesO (S.pgs n) (pagesN P.fr n (S.pgs n).1) w) := by
  have HO := Lib.hid (onDisk_any h hp hn)
  have hz := (size_le h n).1
  have hpg : (S.pgs n).1 ≤ 65536 := by
    unfold Dk.pgs
    split
    · simp
    · split
      · simp
      · show (S.size n).1 / 256 ≤ 65536
        omega
  have HP := Lib.hid hp
  have hl := hp.lim.2.1
  obtain ⟨fr, hfr⟩ : ∃ fr, fr = P.fr := ⟨_, rfl⟩
  rw [← hfr] at hl ⊢
  have HFR := Lib.hid hfr
  clear h hp hz hfr
  go_enter Try.func10, Try.ntmps10
  go_wp2_with fail
  refine HO.out.mono ?_
  rintro e w1 ⟨g1, ⟨he, rfl⟩ | ⟨he, pf, rfl, hpf, hpr⟩⟩
  · have G1 := Lib.hid g1
    have HE := Lib.hid he
    have hne : (((S.pgs n).2 : Int) != 0) = true := by rw [bne_iff_ne]; omega
    clear g1 he HO
    go_wp2
    go_ret2
    exact ⟨G1.out, .inl ⟨HE.out, rfl⟩⟩
  · have G1 := Lib.hid g1
    have HE := Lib.hid he
    obtain ⟨s0, s1, -⟩ := (HP.out.ext g1).selfc
    have HF := Lib.hid (HP.out.ext g1).fr
    have HB := Lib.hid HP.out.bytes
    rw [← HFR.out] at s1 HF HB
    obtain ⟨n0, hn0⟩ : ∃ n0, n0 = (S.pgs n).1 := ⟨_, rfl⟩
    rw [← hn0] at hpg ⊢
    have HN0 := Lib.hid hn0
    clear g1 he HO hpf hpr HP hn0
    go_wp2
    go_loopw [7, 10, 28] (fun m _ i wr => ∃ k : Nat, k ≤ fr.length ∧ i = .int .i64 k ∧ m = .int .i64 (pagesN (fr.take k) n n0) ∧ w1.grownBy wr none) (fun _ _ i _ => fr.length - (intOf i).toNat)
    case atStart => exact ⟨0, by omega, rfl, rfl, gr_refl _ _⟩
    case round =>
      obtain ⟨k, hk, rfl, rfl, hg⟩ := hrel
      have HG := Lib.hid hg
      by_cases hlt : k < fr.length
      · have H1 := Lib.hid (pagesN_succ hlt n n0)
        have hle := pagesN_le (fr := fr.take k) (n := n) (n0 := n0) (m := 4611686018427387905) (by omega) (fun f hf => by have := (HB.out f (List.mem_of_mem_take hf)).len.2.2.2; omega)
        have hb := HB.out _ (List.getElem_mem hlt)
        obtain ⟨x, hx⟩ : ∃ x, x = fr[k] := ⟨_, rfl⟩
        rw [← hx] at H1 hb
        obtain ⟨c0, c1, c2, c3, c4, c5, c6⟩ := frame_cells (HF.out.ext hg) hlt hx.symm
        obtain ⟨Ab, cb, hbv⟩ := hb.rd.form
        rw [hbv] at c3
        have hkb := hb.len.2.2.2
        obtain ⟨xf, xn, xk, xb, xv, xp, xd, xu⟩ := x
        obtain ⟨m, hm⟩ : ∃ m, m = pagesN (fr.take k) n n0 := ⟨_, rfl⟩
        rw [← hm] at H1 hle ⊢
        simp only [] at H1 c0 c1 c2 c3 c4 c5 c6 hkb
        have hr1 : IntKind.i64.wrap (xk + 1) = xk + 1 := by rw [IntWalk.i64_in _ (by omega)]
        clear hm hx hb hbv hg
        cases xf
        · go_wp2
          go_roundw
          case rel => exact ⟨k + 1, by omega, by go_num, by rw [H1.out]; rfl, gr_none HG.out (gr_alloc _ _ _)⟩
          case measure => simp [intOf] <;> omega
        · cases xd
          · go_wp2
            go_roundw
            case rel => exact ⟨k + 1, by omega, by go_num, by rw [H1.out]; rfl, gr_none HG.out (gr_alloc _ _ _)⟩
            case measure => simp [intOf] <;> omega
          · by_cases hnm : xn = n
            · have b1 : (xn == n) = true := by simpa using hnm
              have q1 : Hid (pagesN (fr.take (k + 1)) n n0 = max m (xk + 1)) := by show _ = _; rw [H1.out, b1]; rfl
              clear hnm H1
              go_wp2
              go_roundw
              case rel => exact ⟨k + 1, by omega, by go_num, by rw [q1.out], gr_none HG.out (gr_alloc _ _ _)⟩
              case measure => simp [intOf] <;> omega
            · have b1 : (xn == n) = false := by simpa using hnm
              have q1 : Hid (pagesN (fr.take (k + 1)) n n0 = m) := by show _ = _; rw [H1.out, b1]; rfl
              clear hnm H1
              go_wp2
              go_roundw
              case rel => exact ⟨k + 1, by omega, by go_num, by rw [q1.out], gr_none HG.out (gr_alloc _ _ _)⟩
              case measure => simp [intOf] <;> omega
      · obtain rfl : k = fr.length := by omega
        rw [List.take_length]
        go_wp2
        go_ret2
        exact ⟨gr_none G1.out HG.out, .inr ⟨HE.out, by rw [HN0.out]; rfl⟩⟩
end
end Go.Proofs.Ytkfokgjpeaibpaa
