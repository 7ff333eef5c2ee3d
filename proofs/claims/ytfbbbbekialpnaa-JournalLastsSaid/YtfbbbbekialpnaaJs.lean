/-
  A journal on a disk of its own, seen from an older world.
-/
import Derived.Test.YtfbbbbekialpnaaCut
import Derived.Test.YtfbbbbekialpnaaBck
import Derived.Test.YtfbbbbekialpnaaKpd
import Derived.Test.YtfbbbbekialpnaaOne
namespace Go.Proofs.Ytfbbbbekialpnaa
open Go.RowKit
set_option maxRecDepth 100000
set_option maxHeartbeats 400000

/-- a disk with a journal's file alone, all of it whole. -/
structure Jd (S : Dk) (l : List Rc) (b : Nat) : Prop where
  idle : Idle S
  q : S.quota = 1024
  sm : Sm S 1 b
  ex : ∃ la, S.fs = [⟨jn, secs 0 l, la⟩]
theorem Jd.find {S : Dk} {l : List Rc} {b : Nat} (h : Jd S l b) : ∃ la, S.find jn = some ⟨jn, secs 0 l, la⟩ := by
  obtain ⟨la, e⟩ := h.ex
  exact ⟨la, by unfold Dk.find; rw [e]; simp⟩
theorem Jd.open_ : Jd (jOpen (newD 1024)) [] 0 := by
  have e1 : jOpen1 (newD 1024) = { newD 1024 with fs := (newD 1024).fs ++ [⟨jn, [], []⟩] } := by unfold jOpen1; rw [newD_find]
  have e2 : jOpen (newD 1024) = ({ newD 1024 with fs := (newD 1024).fs ++ [⟨jn, [], []⟩] } : Dk).synced jn := by
    unfold jOpen
    rw [e1, find_added (newD 1024) jn (newD_find 1024)]
    rfl
  rw [e2]
  exact ⟨⟨rfl, rfl⟩, rfl, ⟨by simp [newD, Dk.synced, setF], by simp [newD, Dk.synced], fun s k hl => by simp [newD, Dk.synced] at hl⟩, [], by simp [newD, Dk.synced, setF, secs]⟩
theorem Jd.add {S : Dk} {l : List Rc} {b : Nat} (h : Jd S l b) (r : Rc) : Jd (addD S l.length r) (l ++ [r]) (b + 64) := by
  obtain ⟨la', hf⟩ := h.find
  obtain ⟨hi, hq, hs, la, e⟩ := h
  have e1 : overZ (secs 0 l) (64 * l.length) (secB (l.length + 1) r) = secs 0 (l ++ [r]) := by
    unfold overZ
    rw [secs_snoc, List.take_of_length_le (by rw [secs_len]; omega), List.drop_of_length_le (by rw [secs_len]; omega), List.append_nil, Nat.zero_add]
  refine ⟨⟨hi.1, hi.2⟩, hq, ?_, secs 0 (l ++ [r]), ?_⟩
  · have := (hs.wrote (m := secB (l.length + 1) r) hf (show 64 * l.length ≤ (secs 0 l).length by rw [secs_len]; omega)).synced jn
    rw [secB_len] at this
    exact this
  · unfold addD Dk.synced Dk.wrote setF
    rw [e]
    simp [e1]
theorem Jd.one {S : Dk} {l : List Rc} {b : Nat} (h : Jd S l b) : ∃ la, One S jn (secs 0 l) la 1024 := by
  obtain ⟨la, e⟩ := h.ex
  exact ⟨la, h.idle, e, h.q⟩
theorem Jd.addOne {S : Dk} {l : List Rc} {b : Nat} (h : Jd S l b) (r : Rc) : One (addD S l.length r) jn (secs 0 (l ++ [r])) (secs 0 (l ++ [r])) 1024 := by
  obtain ⟨hi, hq, hs, la, e⟩ := h
  have e1 : overZ (secs 0 l) (64 * l.length) (secB (l.length + 1) r) = secs 0 (l ++ [r]) := by
    unfold overZ
    rw [secs_snoc, List.take_of_length_le (by rw [secs_len]; omega), List.drop_of_length_le (by rw [secs_len]; omega), List.append_nil, Nat.zero_add]
  refine ⟨⟨hi.1, hi.2⟩, ?_, hq⟩
  unfold addD Dk.synced Dk.wrote setF
  rw [e]
  simp [e1]
/-- a journal that is whole is opened as it is. -/
theorem One.recs {S : Dk} {l : List Rc} {la : List UInt8} {q : Nat} (h : One S jn (secs 0 l) la q) (hk : ∀ r ∈ l, r.k ≠ 0) (hl : l.length ≤ 65536) : jRecs S = l ∧ One (jOpen S) jn (secs 0 l) (secs 0 l) q := by
  have hr := readJ_secs hk hl
  have e1 : jOpen1 S = S := by unfold jOpen1; rw [h.find]
  have e2 : jOpen2 S ⟨jn, secs 0 l, la⟩ = S := by
    unfold jOpen2
    dsimp only
    rw [hr, if_neg (by rw [secs_len]; omega)]
  have e3 : jOpen S = S.synced jn := by
    unfold jOpen
    rw [e1, h.find]
    dsimp only
    rw [e2]
  refine ⟨by unfold jRecs; rw [h.find]; exact hr, ?_⟩
  rw [e3]
  refine ⟨⟨h.idle.1, h.idle.2⟩, ?_, h.q⟩
  show setF S.fs jn _ = _
  rw [h.fs, setF_one]
theorem Jd.room {S : Dk} {l : List Rc} {b : Nat} (h : Jd S l b) (r : Rc) (hl : l.length < 1000) {f : Fi} (hf : S.find jn = some f) :
    f.now.length = 64 * l.length ∧ ¬ (0 < moreS f (64 * l.length) (secB (l.length + 1) r) ∧ (S.quota : Int) < S.used + moreS f (64 * l.length) (secB (l.length + 1) r)) := by
  obtain ⟨la, e⟩ := h.find
  rw [e] at hf
  obtain rfl := Option.some.inj hf
  obtain ⟨hi, hq, hn, la', ef⟩ := h
  have eu : S.used = sectors (64 * l.length) := by unfold Dk.used; rw [ef]; simp [secs_len]
  refine ⟨secs_len 0 l, ?_⟩
  unfold moreS
  rw [eu, hq, secB_len]
  show ¬ (0 < (sectors (max (secs 0 l).length (64 * l.length + 64)) : Int) - sectors (secs 0 l).length ∧ _)
  rw [secs_len]
  unfold sectors
  omega
theorem secs_takeF (l : List Rc) (n : Nat) (hn : n ≤ l.length) : (secs 0 l).take (64 * n) = secs 0 (l.take n) := by
  obtain ⟨T, e, hT⟩ := secs_take l (64 * n) (by omega)
  have hd : 64 * n / 64 = n := by omega
  rw [hd] at e
  have hl := congrArg List.length e
  rw [List.length_append, secs_len, List.length_take, List.length_take, secs_len] at hl
  have : T = [] := List.eq_nil_of_length_eq_zero (by omega)
  rw [e, this, List.append_nil]
theorem Jd.back {S : Dk} {l : List Rc} {b : Nat} (h : Jd S l b) {n : Nat} (hn : n ≤ l.length) : Jd (backD S n) (l.take n) b := by
  obtain ⟨hi, hq, hs, la, e⟩ := h
  refine ⟨⟨hi.1, hi.2⟩, hq, (hs.cutTo jn (64 * n)).synced jn, secs 0 (l.take n), ?_⟩
  unfold backD Dk.synced Dk.cutTo setF
  rw [e]
  simp [secs_takeF l n hn]
/-- a journal and its disk. -/
def JS (w0 : World) (d jb : Nat) (S : Dk) (l : List Rc) (w : World) : Prop := ∃ o v, DA w0 d o S w ∧ JR w w0.heap.size o jb d v l
section
variable {w0 w w1 : World} {d jb : Nat} {o : Own1} {S S' : Dk} {l l' : List Rc} {v : Value}
theorem JR.mono {B B' : Nat} (h : JR w B o jb d v l) (hB : B' ≤ B) : JR w B' o jb d v l := ⟨h.box, Own.mono h.own hB, h.free, Nat.le_trans hB h.jB, h.sep⟩
theorem JS.gr (h : JS w0 d jb S l w) : w0.grownBy w none := by obtain ⟨o, v, h1, _⟩ := h; exact h1.gr
theorem JS.ext (h : JS w0 d jb S l w) (g : w.grownBy w1 none) : JS w0 d jb S l w1 := by
  obtain ⟨o, v, h1, h2⟩ := h
  exact ⟨o, v, h1.ext g, h2.ch (Ch.ext g)⟩
theorem JS.of_add (h : DA w0 d o S w) {e : Ending} (ha : AddOut w w0.heap.size d jb S' l' e w1) : e = .returned (.int .i64 0) ∧ JS w0 d jb S' l' w1 := by
  obtain ⟨v', o', c', e1, k1, k2, k3⟩ := ha
  exact ⟨e1, o', v', ⟨⟨c', k1⟩, k3 w0 (Nat.le_refl _) h.gr⟩, k2⟩
theorem JS.add (h : JS w0 d jb S l w) {b : Nat} (hd : Jd S l b) (r : Rc) (hr : r.k ≠ 0) (hl : l.length < 1000) (hb : b ≤ 1000000000) :
    Calls Try.prog 33 #[.pointer (some ⟨jb, 0, none⟩), .agg r.cells] w fun e w' => e = .returned (.int .i64 0) ∧ JS w0 d jb (addD S l.length r) (l ++ [r]) w' := by
  obtain ⟨o, v, h1, h2⟩ := h
  obtain ⟨c, hc⟩ := h1.di
  obtain ⟨la, hf⟩ := hd.find
  obtain ⟨hfl, hroom⟩ := hd.room r hl hf
  exact (add_idle hc h2 hd.idle hf r hr (by omega) (by omega) (by omega) hroom (by have := hd.sm.fl; omega) (by have := hd.sm.nl; omega)).mono fun e w' ha => JS.of_add h1 ha
theorem JS.back (h : JS w0 d jb S l w) {b : Nat} (hd : Jd S l b) {n : Nat} (hn : n ≤ l.length) (hl : l.length < 1000) :
    Calls Try.prog 43 #[.pointer (some ⟨jb, 0, none⟩), .int .i64 n] w fun e w' => e = .returned (.int .i64 0) ∧ JS w0 d jb (backD S n) (l.take n) w' := by
  obtain ⟨o, v, h1, h2⟩ := h
  obtain ⟨c, hc⟩ := h1.di
  obtain ⟨la, hf⟩ := hd.find
  exact (back_idle hc h2 hd.idle hf n hn (by omega) (by show 64 * l.length ≤ (secs 0 l).length; rw [secs_len]; omega)).mono fun e w' ha => JS.of_add h1 ha
theorem JS.recs (h : JS w0 d jb S l w) (hl : l.length ≤ 1000000000) : Calls Try.prog 31 #[.pointer (some ⟨jb, 0, none⟩)] w fun e w' => (∃ v', e = .returned v' ∧ OwnR w' w.heap.size v' l) ∧ w.grownBy w' none := by
  obtain ⟨o, v, h1, h2⟩ := h
  exact recs_any h2 hl
theorem DA.jopen (h : DA w0 d o S w) (hi : Idle S) (hfl : S.fs.length ≤ 1000000) :
    Calls Try.prog 30 #[.pointer (some ⟨d, 0, none⟩)] w fun e w' => ∃ jb, e = .returned (.tuple #[.pointer (some ⟨jb, 0, none⟩), .int .i64 0]) ∧ JS w0 d jb (jOpen S) (jRecs S) w' ∧ ∃ o', Ch o w o' w' ∧ DA w0 d o' (jOpen S) w' ∧ ∃ v, JR w' w0.heap.size o' jb d v (jRecs S) := by
  obtain ⟨c, hc⟩ := h.di
  refine (open_idle hc hi hfl).mono ?_
  rintro e w' ⟨jb, v, o', c', rfl, k1, k2, k3⟩
  have hda : DA w0 d o' (jOpen S) w' := ⟨⟨c', k1⟩, k2.gr h.gr h.own0⟩
  exact ⟨jb, rfl, ⟨o', v, hda, k3.mono h.gr.size⟩, o', k2, hda, v, k3.mono h.gr.size⟩
end
end Go.Proofs.Ytfbbbbekialpnaa
