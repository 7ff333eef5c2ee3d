/-
  The filled journal: a record without a kind, and the loop that adds records.
-/
import Derived.Test.YtfbbbbekialpnaaJ6
namespace Go.Proofs.Ytfbbbbekialpnaa
open Go.RowKit
set_option maxRecDepth 100000
set_option maxHeartbeats 400000

/-- a disk with a journal's file alone, all of it whole. -/
def Full (S : Dk) (l : List Rc) : Prop := Idle S ∧ S.quota = 1024 ∧ S.nl ≤ 64 * l.length ∧ ∃ la, S.fs = [⟨jn, secs 0 l, la⟩]
theorem Full.find {S : Dk} {l : List Rc} (h : Full S l) : ∃ la, S.find jn = some ⟨jn, secs 0 l, la⟩ := by
  obtain ⟨_, _, _, la, e⟩ := h
  exact ⟨la, by unfold Dk.find; rw [e]; simp⟩
theorem Full.open_ : Full (jOpen (newD 1024)) [] := by
  have e1 : jOpen1 (newD 1024) = { newD 1024 with fs := (newD 1024).fs ++ [⟨jn, [], []⟩] } := by unfold jOpen1; rw [newD_find]
  have e2 : jOpen (newD 1024) = ({ newD 1024 with fs := (newD 1024).fs ++ [⟨jn, [], []⟩] } : Dk).synced jn := by
    unfold jOpen
    rw [e1, find_added (newD 1024) jn (newD_find 1024)]
    rfl
  rw [e2]
  exact ⟨⟨rfl, rfl⟩, rfl, by simp [newD, Dk.synced], [], by simp [newD, Dk.synced, setF, secs]⟩
theorem Full.add {S : Dk} {l : List Rc} (h : Full S l) (r : Rc) : Full (addD S l.length r) (l ++ [r]) := by
  obtain ⟨hi, hq, hn, la, e⟩ := h
  have e1 : overZ (secs 0 l) (64 * l.length) (secB (l.length + 1) r) = secs 0 (l ++ [r]) := by
    unfold overZ
    rw [secs_snoc, List.take_of_length_le (by rw [secs_len]; omega), List.drop_of_length_le (by rw [secs_len]; omega), List.append_nil, Nat.zero_add]
  refine ⟨⟨hi.1, hi.2⟩, hq, ?_, secs 0 (l ++ [r]), ?_⟩
  · show S.nl + (secB (l.length + 1) r).length ≤ _
    rw [secB_len, List.length_append, List.length_singleton]; omega
  · unfold addD Dk.synced Dk.wrote setF
    rw [e]
    simp [e1]
theorem Full.room {S : Dk} {l : List Rc} (h : Full S l) (r : Rc) (hl : l.length < 1000) {f : Fi} (hf : S.find jn = some f) :
    f.now.length = 64 * l.length ∧ ¬ (0 < moreS f (64 * l.length) (secB (l.length + 1) r) ∧ (S.quota : Int) < S.used + moreS f (64 * l.length) (secB (l.length + 1) r)) := by
  obtain ⟨la, e⟩ := h.find
  rw [e] at hf
  obtain rfl := Option.some.inj hf
  obtain ⟨hi, hq, hn, la', ef⟩ := h
  have eu : S.used = sectors (64 * l.length) := by unfold Dk.used; rw [ef]; simp [secs_len]
  refine ⟨secs_len 0 l, ?_⟩
  unfold moreS
  rw [eu, hq, secB_len]
  show ¬ (0 < (sectors (max (secs 0 l).length (64 * l.length + 64)) : Int) - sectors (secs 0 l).length ∧ _)
  rw [secs_len]
  unfold sectors
  omega
theorem add_arg (r : Rc) (h : r.k = 0) (jb : Nat) (w : World) : Calls Try.prog 33 #[.pointer (some ⟨jb, 0, none⟩), .agg r.cells] w fun e w' => e = .returned (.int .i64 1) ∧ w.grownBy w' none := by
  have hk : ((r.k.toNat : Int) == 0) = true := by rw [h]; rfl
  have hk2 : r.k.toNat = 0 := by rw [h]; rfl
  have hk3 : (r.k.toNat : Int) = 0 := by rw [h]; rfl
  unfold Rc.cells
  rw [hk2]
  clear hk hk2 hk3 h
  go_enter Try.func33, Try.ntmps33
  go_wp2
  go_ret
  exact ⟨rfl, gr_alloc _ _ _⟩
def FillOut (w : World) (l : List Rc) (e : Ending) (w' : World) : Prop := ∃ d,
  ((∀ r ∈ l, r.k ≠ 0) ∧ ∃ jb v o c S, e = .returned (.tuple #[.pointer (some ⟨d, 0, none⟩), .pointer (some ⟨jb, 0, none⟩), .bool true]) ∧ DI w' w.heap.size o d S c ∧ Full S l ∧ JR w' w.heap.size o jb d v l ∧ w.grownBy w' none) ∨
  (e = .returned (.tuple #[.pointer (some ⟨d, 0, none⟩), .pointer none, .bool true]) ∧ w.grownBy w' none)
def FilR (w : World) (d jb : Nat) (l : List Rc) (k : Nat) (wr : World) : Prop :=
  ∃ v o c S, DI wr w.heap.size o d S c ∧ Full S (l.take k) ∧ JR wr w.heap.size o jb d v (l.take k) ∧ w.grownBy wr none ∧ ∀ r ∈ l.take k, r.k ≠ 0
end Go.Proofs.Ytfbbbbekialpnaa
