/-
  pool: New, Create; a frame taken that is empty.
-/
import Derived.Test.YtkfokgjpeaibpaaPo3
import Derived.Laws.MakeOwn
import Derived.WalkMore
namespace Go.Proofs.Ytkfokgjpeaibpaa
open Go.RowKit Go.Maps
set_option maxRecDepth 100000
set_option maxHeartbeats 400000

section
variable {w w' : World} {B d p g mb nm : Nat} {o : Own1} {P : Pl} {S : Dk} {c : Con}
theorem pdisk_any (h : PoR w B o d p g mb P nm) : Calls Try.prog 48 #[.pointer (some ⟨p, 0, none⟩)] w fun e w' => e = .returned (.pointer (some ⟨d, 0, none⟩)) ∧ w = w' := by
  obtain ⟨s0, -⟩ := h.selfc
  clear h
  go_enter Try.func48, Try.ntmps48
  go_wp2
  go_ret
  exact ⟨rfl, rfl⟩
theorem pframes_any (h : PoR w B o d p g mb P nm) : Calls Try.prog 49 #[.pointer (some ⟨p, 0, none⟩)] w fun e w' => e = .returned (.int .i64 P.fr.length) ∧ w = w' := by
  obtain ⟨-, s1, -⟩ := h.selfc
  clear h
  go_enter Try.func49, Try.ntmps49
  go_wp2
  go_ret
  exact ⟨rfl, rfl⟩
theorem pocreate_any (h : DI w B o d S c) (hp : PoR w B o d p g mb P nm) {n : List UInt8} (hn : n.length ≤ 1000000000) (hfl : S.fs.length ≤ 1000000) :
    Calls Try.prog 21 #[.pointer (some ⟨p, 0, none⟩), .string ⟨n.toArray⟩] w fun e w' => e = .returned (.int .i64 (S.create n).2) ∧ ∃ o' c', DI w' B o' d (S.create n).1 c' ∧ Ch o w o' w' ∧ PoR w' B o' d p g mb P nm := by
  obtain ⟨s0, -⟩ := hp.selfc
  have HC := Lib.hid (pcreate_any h hn hfl)
  have HP := Lib.hid hp
  clear h hp
  go_enter Try.func21, Try.ntmps21
  obtain ⟨X, hX⟩ : ∃ X, X = S.create n := ⟨_, rfl⟩
  rw [← hX] at HC ⊢
  clear hX
  go_wp2_with fail
  refine HC.out.mono ?_
  rintro e w1 ⟨o', c', h1, ch, ⟨e0, pf, rfl, -, -⟩ | ⟨e0, rfl⟩⟩
  · have H1 := Lib.hid h1
    have CH := Lib.hid ch
    have E0 := Lib.hid e0
    clear h1 ch e0
    go_wp2
    go_ret
    exact ⟨by rw [E0.out]; rfl, o', c', H1.out, CH.out, HP.out.ch CH.out⟩
  · have H1 := Lib.hid h1
    have CH := Lib.hid ch
    clear h1 ch e0
    go_wp2
    go_ret
    exact ⟨rfl, o', c', H1.out, CH.out, HP.out.ch CH.out⟩
theorem Try.infoFr : (Try.prog.info? 77).map (fun i => (i.zero, i.size, i.bytes)) = some (some (.agg #[.bool false, .string ⟨#[]⟩, .int .i64 0, .slice none 0 0, .int .i64 0, .bool false, .bool false]), 7, 72) := by kernel_rfl
def zFr : Array Value := #[.bool false, .string ⟨#[]⟩, .int .i64 0, .slice none 0 0, .int .i64 0, .bool false, .bool false]
theorem made_frames (n : Nat) : madeCells zFr (n * 7) = ((List.replicate n fr0).flatMap Fr.enc).toArray := by
  apply Array.ext_getElem?
  intro j
  have e : ((List.replicate n fr0).flatMap Fr.enc).toArray[j]? = ((List.replicate n fr0).flatMap Fr.enc)[j]? := by simp
  rw [e]
  clear e
  have hlen : ((List.replicate n fr0).flatMap Fr.enc).length = n * 7 := by
    clear j
    induction n with
    | zero => rfl
    | succ n ih => rw [List.replicate_succ, List.flatMap_cons, List.length_append, ih, fr7]; omega
  by_cases hj : j < n * 7
  · have h1 := flat_at fr7 (List.replicate n fr0) (i := j / 7) (by simp; omega) (j := j % 7) (by omega)
    rw [show j / 7 * 7 + j % 7 = j from by omega] at h1
    rw [h1, List.getElem_replicate]
    simp only [madeCells, Array.getElem?_map, Array.getElem?_range, hj, if_true, Option.map_some]
    have h7 : j % 7 < 7 := by omega
    show some (zFr[j % 7]!) = _
    generalize j % 7 = r at h7
    rcases (by omega : r = 0 ∨ r = 1 ∨ r = 2 ∨ r = 3 ∨ r = 4 ∨ r = 5 ∨ r = 6) with rfl | rfl | rfl | rfl | rfl | rfl | rfl <;> rfl
  · rw [Array.getElem?_eq_none (by rw [size_madeCells]; omega), List.getElem?_eq_none (by omega)]
def frs0 (n : Nat) : Array Value := ((List.replicate n fr0).flatMap Fr.enc).toArray
theorem make_frames (n : Nat) (hn : n ≤ 4096) (w : World) : (Instr.makeSlice 70 (.int .i64 (n : Int)) (.int .i64 (n : Int))).run Try.prog w = .ok (.slice (some ⟨w.heap.size, 0, none⟩) n n) (w.alloc (.cells (frs0 n) 77)) := by
  unfold frs0
  obtain ⟨i, hi, hz, hs, hb⟩ := info_parts Try.infoFr
  have h := run_makeSlice w 70 77 i _ Try.underlying70 hi hz .i64 .i64 n n (by omega) (by omega) (by rw [hs]; simp; omega) (by rw [hb]; omega) (by omega)
  rw [hs] at h
  simp only [Int.toNat_natCast] at h
  rw [← made_frames]
  exact h
def pl0 (n : Nat) : Pl := ⟨List.replicate n fr0, fun _ => none, 0, 0, 0⟩
theorem ponew_any (h : DI w B o d S c) (n : Nat) (h1 : 1 ≤ n) (hn : n ≤ 4096) :
    Calls Try.prog 20 #[.pointer (some ⟨d, 0, none⟩), .int .i64 n] w fun e w' => ∃ p g mb, e = .returned (.tuple #[.pointer (some ⟨p, 0, none⟩), .int .i64 0]) ∧ PoR w' B o d p g mb (pl0 n) 0 ∧ w.grownBy w' none := by
  have d1 : decide ((n : Int) < 1) = false := by simp; omega
  have d2 : decide ((4096 : Int) < (n : Int)) = false := by simp; omega
  have hmk := make_frames n hn
  have hmm := @run_makeMap Try.prog
  have H := Lib.hid h
  clear h
  go_enter Try.func20, Try.ntmps20
  go_wp2
  go_ret2
  clear hmk hmm
  have hne : ∀ i, w.heap.size ≤ i → o i = none := fun i hi => by
    cases e : o i with
    | none => rfl
    | some t => exact absurd (H.out.inb i (by rw [e]; simp)).2 (by omega)
  have hB := H.out.base
  obtain ⟨w1, hw1⟩ : ∃ w1, w1 = w.alloc (.cells (frs0 n) 77) := ⟨_, rfl⟩
  rw [← hw1]
  have z1 : w1.heap.size = w.heap.size + 1 := by rw [hw1, World.size_alloc]
  have b1 : Blk w1 w.heap.size 77 (frs0 n) := by rw [hw1]; exact Blk.new _ _ _
  have g1 : w.grownBy w1 none := by rw [hw1]; exact gr_alloc _ _ none
  clear hw1
  obtain ⟨w2, hw2⟩ : ∃ w2, w2 = w1.alloc (.map #[] 0) := ⟨_, rfl⟩
  rw [← hw2]
  have z2 : w2.heap.size = w.heap.size + 1 + 1 := by rw [hw2, World.size_alloc, z1]
  have b2 : VM pkK w2 (w.heap.size + 1) 0 (fun _ => none) := by rw [hw2, ← z1]; exact VM.made _ _
  have g2 : w1.grownBy w2 none := by rw [hw2]; exact gr_alloc _ _ none
  clear hw2
  obtain ⟨w3, hw3⟩ : ∃ w3, w3 = w2.alloc (.cells #[.pointer (some ⟨d, 0, none⟩), .slice (some ⟨w.heap.size, 0, none⟩) n n, .map (some (w.heap.size + 1)), .int .i64 0, .int .i64 0, .int .i64 0] 73) := ⟨_, rfl⟩
  rw [← hw3]
  have b3 : Blk w3 (w.heap.size + 1 + 1) 73 #[.pointer (some ⟨d, 0, none⟩), .slice (some ⟨w.heap.size, 0, none⟩) n n, .map (some (w.heap.size + 1)), .int .i64 0, .int .i64 0, .int .i64 0] := by rw [hw3, ← z2]; exact Blk.new _ _ _
  have g3 : w2.grownBy w3 none := by rw [hw3]; exact gr_alloc _ _ none
  clear hw3
  refine ⟨w.heap.size + 1 + 1, w.heap.size, w.heap.size + 1, rfl, ⟨?_, (b1.ext g2).ext g3, b2.ext g3, fun x i => ?_, fun x hx => ?_, ⟨hne _ (by omega), hne _ (by omega), hne _ (by omega)⟩, ⟨by omega, by omega, by omega⟩, ⟨by omega, by omega, by omega⟩, ?_⟩, gr_none (gr_none g1 g2) g3⟩
  · show Blk w3 _ _ #[_, .slice (some ⟨w.heap.size, 0, none⟩) (List.replicate n fr0).length (List.replicate n fr0).length, _, _, _, _]
    rw [List.length_replicate]
    exact b3
  · show none = some i ↔ ∃ h : i < (List.replicate n fr0).length, ((List.replicate n fr0)[i]).full = true ∧ _
    constructor
    · intro e; cases e
    · rintro ⟨h, e, -⟩
      rw [List.getElem_replicate] at e
      cases e
  · have hx2 : x = fr0 := (List.mem_replicate.1 hx).2
    subst hx2
    exact ⟨Rd.nil _ _, (fun q e => by cases e), ⟨by simp [fr0], by simp [fr0], by simp [fr0], by simp [fr0]⟩⟩
  · show 1 ≤ (List.replicate n fr0).length ∧ (List.replicate n fr0).length ≤ 4096 ∧ 0 < (List.replicate n fr0).length ∧ 0 ≤ 4096 ∧ 0 ≤ 4096
    rw [List.length_replicate]
    exact ⟨h1, hn, by omega, by omega, by omega⟩
set_option maxHeartbeats 2000000 in
theorem take_free (h : PoR w B o d p g mb P nm) {i : Nat} (hi : i < P.fr.length) (h0 : P.fr[i].full = false) (hb : ∀ j (hj : j < P.fr.length), j < i → P.fr[j].full = true) :
    Calls Try.prog 40 #[.pointer (some ⟨p, 0, none⟩)] w fun e w' => e = .returned (.tuple #[.int .i64 i, .int .i64 0]) ∧ w.grownBy w' none := by
  obtain ⟨s0, s1, -⟩ := h.selfc
  have HF := Lib.hid h.fr
  have HB := Lib.hid h.bytes
  have hl := h.lim.2.1
  have HA := Lib.hid hb
  have H0 := Lib.hid h0
  clear h hb h0
  obtain ⟨fr, wh, hand, mf, mp⟩ := P
  dsimp only at s1 hl hi HF HB HA H0
  go_enter Try.func40, Try.ntmps40
  go_wp2
  go_step3
  go_wp2
  go_loopw [4, 5, 15] (fun _ _ k wr => ∃ j : Nat, j ≤ i ∧ k = .int .i64 j ∧ w.grownBy wr none) (fun _ _ k _ => fr.length - (intOf k).toNat)
  case atStart => exact ⟨0, by omega, rfl, gr_refl _ _⟩
  case round =>
    obtain ⟨j, hj, rfl, hg⟩ := hrel
    have HG := Lib.hid hg
    have hlt : j < fr.length := by omega
    have hb := HB.out _ (List.getElem_mem hlt)
    obtain ⟨x, hx⟩ : ∃ x, x = fr[j] := ⟨_, rfl⟩
    rw [← hx] at hb
    obtain ⟨c0, c1, c2, c3, c4, c5, c6⟩ := frame_cells (HF.out.ext hg) hlt hx.symm
    obtain ⟨Ab, cb, hbv⟩ := hb.rd.form
    rw [hbv] at c3
    have hfull : x.full = decide (j < i) := by
      by_cases hji : j < i
      · rw [hx, HA.out j hlt hji]; simp [hji]
      · obtain rfl : j = i := by omega
        rw [hx, H0.out]; simp
    obtain ⟨xf, xn, xk, xb, xv, xp, xd, xu⟩ := x
    simp only [] at hfull c0 c1 c2 c3 c4 c5 c6
    subst hfull
    clear hx hb hbv hg
    by_cases hji : j < i
    · have hd : decide (j < i) = true := by simpa using hji
      rw [hd] at c0
      clear hd
      go_wp2
      go_roundw
      case rel => exact ⟨j + 1, by omega, by go_num, gr_none HG.out (gr_alloc _ _ _)⟩
      case measure => simp [intOf] <;> omega
    · obtain rfl : j = i := by omega
      have hd : decide (j < j) = false := by simp
      rw [hd] at c0
      clear hd
      go_wp2
      try rw [Exit.noGoto_ret]
      go_ret2
      exact ⟨rfl, gr_none HG.out (gr_alloc _ _ _)⟩
end
end Go.Proofs.Ytkfokgjpeaibpaa
