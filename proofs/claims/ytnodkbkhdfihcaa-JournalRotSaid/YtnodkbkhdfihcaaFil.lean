/-
  The filled journal: a record without a kind, and the loop that adds records.
-/
import Derived.Test.YtnodkbkhdfihcaaJ6
namespace Go.Proofs.Ytnodkbkhdfihcaa
open Go.RowKit
set_option maxRecDepth 100000
set_option maxHeartbeats 400000

/-- a disk with a journal's file alone, all of it whole. -/
def Full (S : Dk) (l : List Rc) : Prop := Idle S ∧ S.quota = 1024 ∧ S.nl ≤ 64 * l.length ∧ ∃ la, S.fs = [⟨jn, secs 0 l, la⟩]
theorem Full.find {S : Dk} {l : List Rc} (h : Full S l) : ∃ la, S.find jn = some ⟨jn, secs 0 l, la⟩ := by
  obtain ⟨_, _, _, la, e⟩ := h
  exact ⟨la, by unfold Dk.find; rw [e]; simp⟩
theorem Full.open_ : Full (jOpen (newD 1024)) [] := by
  have e1 : jOpen1 (newD 1024) = { newD 1024 with fs := (newD 1024).fs ++ [⟨jn, [], []⟩] } := by unfold jOpen1; rw [newD_find]
  have e2 : jOpen (newD 1024) = ({ newD 1024 with fs := (newD 1024).fs ++ [⟨jn, [], []⟩] } : Dk).synced jn := by
    unfold jOpen
    rw [e1, find_added (newD 1024) jn (newD_find 1024)]
    rfl
  rw [e2]
  exact ⟨⟨rfl, rfl⟩, rfl, by simp [newD, Dk.synced], [], by simp [newD, Dk.synced, setF, secs]⟩
theorem Full.add {S : Dk} {l : List Rc} (h : Full S l) (r : Rc) : Full (addD S l.length r) (l ++ [r]) := by
  obtain ⟨hi, hq, hn, la, e⟩ := h
  have e1 : overZ (secs 0 l) (64 * l.length) (secB (l.length + 1) r) = secs 0 (l ++ [r]) := by
    unfold overZ
    rw [secs_snoc, List.take_of_length_le (by rw [secs_len]; omega), List.drop_of_length_le (by rw [secs_len]; omega), List.append_nil, Nat.zero_add]
  refine ⟨⟨hi.1, hi.2⟩, hq, ?_, secs 0 (l ++ [r]), ?_⟩
  · show S.nl + (secB (l.length + 1) r).length ≤ _
    rw [secB_len, List.length_append, List.length_singleton]; omega
  · unfold addD Dk.synced Dk.wrote setF
    rw [e]
    simp [e1]
theorem Full.room {S : Dk} {l : List Rc} (h : Full S l) (r : Rc) (hl : l.length < 1000) {f : Fi} (hf : S.find jn = some f) :
    f.now.length = 64 * l.length ∧ ¬ (0 < moreS f (64 * l.length) (secB (l.length + 1) r) ∧ (S.quota : Int) < S.used + moreS f (64 * l.length) (secB (l.length + 1) r)) := by
  obtain ⟨la, e⟩ := h.find
  rw [e] at hf
  obtain rfl := Option.some.inj hf
  obtain ⟨hi, hq, hn, la', ef⟩ := h
  have eu : S.used = sectors (64 * l.length) := by unfold Dk.used; rw [ef]; simp [secs_len]
  refine ⟨secs_len 0 l, ?_⟩
  unfold moreS
  rw [eu, hq, secB_len]
  show ¬ (0 < (sectors (max (secs 0 l).length (64 * l.length + 64)) : Int) - sectors (secs 0 l).length ∧ _)
  rw [secs_len]
  unfold sectors
  omega
theorem add_arg (r : Rc) (h : r.k = 0) (jb : Nat) (w : World) : Calls Try.prog 24 #[.pointer (some ⟨jb, 0, none⟩), .agg r.cells] w fun e w' => e = .returned (.int .i64 1) ∧ w.grownBy w' none := by
  have hk : ((r.k.toNat : Int) == 0) = true := by rw [h]; rfl
  have hk2 : r.k.toNat = 0 := by rw [h]; rfl
  have hk3 : (r.k.toNat : Int) = 0 := by rw [h]; rfl
  unfold Rc.cells
  rw [hk2]
  clear hk hk2 hk3 h
  go_enter Try.func24, Try.ntmps24
  go_wp2
  go_ret
  exact ⟨rfl, gr_alloc _ _ _⟩
def FillOut (w : World) (l : List Rc) (e : Ending) (w' : World) : Prop := ∃ d,
  ((∀ r ∈ l, r.k ≠ 0) ∧ ∃ jb v o c S, e = .returned (.tuple #[.pointer (some ⟨d, 0, none⟩), .pointer (some ⟨jb, 0, none⟩), .bool true]) ∧ DI w' w.heap.size o d S c ∧ Full S l ∧ JR w' w.heap.size o jb d v l ∧ w.grownBy w' none) ∨
  (e = .returned (.tuple #[.pointer (some ⟨d, 0, none⟩), .pointer none, .bool true]) ∧ w.grownBy w' none)
def FilR (w : World) (d jb : Nat) (l : List Rc) (k : Nat) (wr : World) : Prop :=
  ∃ v o c S, DI wr w.heap.size o d S c ∧ Full S (l.take k) ∧ JR wr w.heap.size o jb d v (l.take k) ∧ w.grownBy wr none ∧ ∀ r ∈ l.take k, r.k ≠ 0
set_option maxHeartbeats 4000000 in
theorem fill_any (v : Value) (l : List Rc) (w : World) (h : RdR w v l) (hl : l.length ≤ 60) :
    Calls Try.prog 21 #[v] w (FillOut w l) := by
  obtain ⟨A, c0, rfl⟩ := h.form
  obtain ⟨g, off, hA, _, _, hcells⟩ := h.at_
  have HA := Lib.hid hA
  have HC := Lib.hid hcells
  clear hA hcells h
  have HNEW := Lib.hid (new_ok 1024 w (by omega))
  have HOP : Hid (∀ (wx : World) (d : Nat) (o : Own1) (c : Con), DI wx w.heap.size o d (newD 1024) c → Calls Try.prog 16 #[.pointer (some ⟨d, 0, none⟩)] wx (OpenOut o wx w.heap.size d (newD 1024))) := fun wx d o c h => open_none h (newD_idle 1024) (newD_find 1024) (by simp [newD])
  have HAD : Hid (∀ (wx : World) (d jb : Nat) (k : Nat) (hk : k < l.length), FilR w d jb l k wx → l[k].k ≠ 0 → Calls Try.prog 24 #[.pointer (some ⟨jb, 0, none⟩), .agg l[k].cells] wx fun e w' => e = .returned (.int .i64 0) ∧ FilR w d jb l (k + 1) w') := fun wx d jb k hk hr h0 => by
    obtain ⟨v, o, c, S, h1, h2, h3, h4, h5⟩ := hr
    obtain ⟨la, hf⟩ := h2.find
    have hlen : (l.take k).length = k := by rw [List.length_take]; omega
    obtain ⟨hfl, hroom⟩ := h2.room l[k] (by omega) hf
    have hsn : l.take (k + 1) = l.take k ++ [l[k]] := by rw [List.take_add_one, List.getElem?_eq_getElem hk]; rfl
    obtain ⟨hi, hq, hnl, la', ef⟩ := id h2
    refine (add_idle h1 h3 hi hf l[k] h0 (by omega) (by omega) (by omega) hroom (by rw [ef]; simp) (by omega)).mono ?_
    rintro e w' ⟨v', o', c', rfl, k1, k2, k3⟩
    refine ⟨rfl, v', o', c', _, k1, ?_, ?_, k3 w (Nat.le_refl _) h4, ?_⟩
    · rw [hsn]; exact h2.add _
    · rw [hsn]; exact k2
    · intro r hr
      rw [hsn] at hr
      rcases List.mem_append.1 hr with hr | hr
      · exact h5 r hr
      · rw [List.mem_singleton.1 hr]; exact h0
  go_enter Try.func21, Try.ntmps21
  go_wp2_with fail
  refine HNEW.out.mono ?_
  rintro e w1 ⟨d, o, c, rfl, h1, g1⟩
  have G1 := Lib.hid g1
  have HT1 : Hid (∀ i, o i ≠ none → w.heap.size ≤ i) := fun i hi => (h1.inb i hi).1
  have H1 := Lib.hid h1
  clear h1 g1
  go_wp2_with fail
  refine (HOP.out _ _ _ _ H1.out).mono ?_
  rintro e w2 ⟨jb, v2, o2, c2, rfl, h2, ch2, hj2⟩
  have G2 := Lib.hid (ch2.gr G1.out HT1.out)
  have H0 : Hid (FilR w d jb l 0 w2) := ⟨v2, o2, c2, _, h2, Full.open_, ⟨hj2.box, Own.mono hj2.own G1.out.size, hj2.free, Nat.le_trans G1.out.size hj2.jB, hj2.sep⟩, G2.out, fun r hr => by simp at hr⟩
  clear h2 ch2 hj2
  go_wp2_with fail
  go_loopw [8, 9] (fun i _ wr => ∃ k : Nat, k ≤ l.length ∧ i = .int .i64 k ∧ FilR w d jb l k wr) (fun i _ _ => l.length - (intOf i).toNat)
  case atStart => exact ⟨0, by omega, rfl, H0.out⟩
  case round =>
    obtain ⟨k, hk, rfl, hr⟩ := hrel
    have HR := Lib.hid hr
    clear hr
    by_cases hlt : k < l.length
    · have hg := (show FilR w d jb l k wr from HR.out)
      obtain ⟨_, _, _, _, _, _, _, hg, _⟩ := hg
      have := HA.out (by omega)
      subst this
      have HADk := Lib.hid (HAD.out wr d jb k hlt HR.out)
      rcases hx : l[k] with ⟨xa, xb, xc⟩
      obtain ⟨q0, q1, q2⟩ := at3 HC.out hg hlt hx
      by_cases h0 : xa = 0
      · subst h0
        have HAA := Lib.hid (add_arg ⟨0, xb, xc⟩ rfl jb)
        unfold Rc.cells at HAA
        have GR := Lib.hid hg
        have HX := Lib.hid hx
        clear HADk hx hg
        go_wp2_with fail
        refine (HAA.out _).mono ?_
        rintro e w5 ⟨rfl, g5⟩
        obtain ⟨p0, p1, p2⟩ := at3 HC.out (gr_none GR.out g5) hlt HX.out
        have G5 := Lib.hid (gr_none GR.out g5)
        clear g5
        go_wp2
        go_ret3
        exact ⟨d, .inr ⟨rfl, G5.out⟩⟩
      · have HK := Lib.hid (HADk.out (by rw [hx]; exact h0))
        rw [hx] at HK
        unfold Rc.cells at HK
        have hk0 : ((xa.toNat : Int) == 0) = false := by
          rw [beq_eq_false_iff_ne]
          intro e
          exact h0 (UInt32.toNat_inj.1 (by simpa using e))
        have GR := Lib.hid hg
        have HX := Lib.hid hx
        clear HADk hx hg h0
        go_wp2_with fail
        refine HK.out.mono ?_
        rintro e w5 ⟨rfl, r5⟩
        have g5 : w.grownBy w5 none := by obtain ⟨_, _, _, _, _, _, _, hg, _⟩ := r5; exact hg
        obtain ⟨p0, p1, p2⟩ := at3 HC.out g5 hlt HX.out
        have R5 := Lib.hid r5
        clear g5 r5
        go_wp2
        refine ⟨⟨k + 1, by omega, by congr 1, R5.out⟩, ?_⟩
        simp only [intOf]
        omega
    · have e1 : k = l.length := by omega
      subst e1
      go_wp2
      go_ret3
      obtain ⟨v, o, c, S, k1, k2, k3, k4, k5⟩ := HR.out
      rw [List.take_of_length_le (Nat.le_refl _)] at k2 k3 k5
      exact ⟨d, .inl ⟨k5, jb, v, o, c, S, rfl, k1, k2, k3, k4⟩⟩
end Go.Proofs.Ytnodkbkhdfihcaa
