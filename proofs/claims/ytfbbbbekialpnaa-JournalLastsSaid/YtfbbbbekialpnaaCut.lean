/-
  JournalCut, the walk.
-/
import Derived.Test.YtfbbbbekialpnaaFil
namespace Go.Proofs.Ytfbbbbekialpnaa
open Go.RowKit
set_option maxRecDepth 100000
set_option maxHeartbeats 400000

theorem secs_append (n : Nat) (l m : List Rc) : secs n (l ++ m) = secs n l ++ secs (n + l.length) m := by
  induction l generalizing n with
  | nil => simp [secs]
  | cons a l ih => rw [List.cons_append, secs, ih, secs, List.append_assoc, List.length_cons]; congr 3; omega
theorem secs_take (l : List Rc) (k : Nat) (hk : k ≤ 64 * l.length) : ∃ T, (secs 0 l).take k = secs 0 (l.take (k / 64)) ++ T ∧ T.length < 64 := by
  have hq : k / 64 ≤ l.length := by omega
  have e : secs 0 l = secs 0 (l.take (k / 64)) ++ secs (l.take (k / 64)).length (l.drop (k / 64)) := by
    have := secs_append 0 (l.take (k / 64)) (l.drop (k / 64))
    rw [List.take_append_drop, Nat.zero_add] at this
    exact this
  refine ⟨(secs (l.take (k / 64)).length (l.drop (k / 64))).take (k - 64 * (k / 64)), ?_, ?_⟩
  · have hl : (secs 0 (l.take (k / 64))).length = 64 * (k / 64) := by rw [secs_len, List.length_take]; omega
    rw [e, List.take_append, List.take_of_length_le (by rw [hl]; omega), hl]
  · rw [List.length_take]; omega
theorem readJ_cut (l : List Rc) (k : Nat) (hk : k ≤ 64 * l.length) (hn : l.length ≤ 60) (h0 : ∀ r ∈ l, r.k ≠ 0) : readJ ((secs 0 l).take k) = l.take (k / 64) := by
  obtain ⟨T, e, hT⟩ := secs_take l k hk
  have hm : (l.take (k / 64)).length = k / 64 := by rw [List.length_take]; omega
  unfold readJ
  rw [e]
  refine readF_secs _ 0 _ T (fun r hr => h0 r (List.mem_of_mem_take hr)) (by omega) ?_ (readF_stop (.inl hT))
  rw [List.length_append, secs_len]; omega
theorem RdR.take {w : World} {A : Option Addr} {n c : Nat} {b : List Rc} (h : RdR w (.slice A n c) b) {k : Nat} (hk : k ≤ b.length) : RdR w (.slice A k c) (b.take k) := by
  obtain ⟨hl, A', c', g, off, e, hn, hc, hA0, hA, hx⟩ := h
  cases e
  have hl' : (b.take k).length = k := List.length_take_of_le hk
  have e2 : rcL b = rcL (b.take k) ++ rcL (b.drop k) := by rw [← rcL_append, List.take_append_drop]
  have h3 : (rcL (b.take k)).length = k * 3 := by rw [rcL_len, hl']
  unfold RdR
  rw [hl']
  refine ⟨h3, _, _, g, off, rfl, by omega, hc, hA0, fun h0 => hA (by omega), fun j hj => ?_⟩
  rw [hx j (by omega), e2, List.getElem?_append_left (by omega)]
theorem jOpen_cut {S : Dk} {l : List Rc} (h : Full S l) (k : Nat) (hk : k ≤ 64 * l.length) (hn : l.length ≤ 60) (h0 : ∀ r ∈ l, r.k ≠ 0) :
    jRecs (S.cutTo jn k) = l.take (k / 64) ∧ ∃ f, (jOpen (S.cutTo jn k)).find jn = some f ∧ f.now.length = 64 * (k / 64) := by
  obtain ⟨la, hf⟩ := h.find
  have e : (S.cutTo jn k).find jn = some ⟨jn, (secs 0 l).take k, la.take k⟩ := by rw [find_cutTo, hf]; simp
  have hr : jRecs (S.cutTo jn k) = l.take (k / 64) := by
    unfold jRecs
    rw [e]
    exact readJ_cut l k hk hn h0
  refine ⟨hr, ?_⟩
  obtain ⟨f, h1, h2⟩ := find_jOpen e
  refine ⟨f, h1, ?_⟩
  rw [h2]
  show (((secs 0 l).take k).take (64 * (readJ ((secs 0 l).take k)).length)).length = _
  rw [readJ_cut l k hk hn h0, List.length_take, List.length_take, List.length_take, secs_len]
  omega
end Go.Proofs.Ytfbbbbekialpnaa
