/-
  stream: records one behind the other, cut into pages: plain.
-/
import Derived.Test.YtkfokgjpeaibpaaG5
import Derived.Test.YtkfokgjpeaibpaaPo3
import Derived.Laws.MakeOwn
import Derived.WalkMore
namespace Go.Proofs.Ytkfokgjpeaibpaa
set_option maxRecDepth 100000

/-- bytes cut into pages of c. -/
def chk (c : Nat) (L : List UInt8) : List (List UInt8) := (List.range ((L.length + c - 1) / c)).map fun k => (L.drop (k * c)).take c
theorem chk_len (c : Nat) (L : List UInt8) : (chk c L).length = (L.length + c - 1) / c := by unfold chk; simp
theorem chk_lt {c : Nat} (hc : 0 < c) (L : List UInt8) (k : Nat) : k < (L.length + c - 1) / c ↔ k * c < L.length := by
  rw [Nat.lt_div_iff_mul_lt hc]
  omega
theorem chk_at {c : Nat} (hc : 0 < c) (L : List UInt8) (k : Nat) : (chk c L)[k]? = if k * c < L.length then some ((L.drop (k * c)).take c) else none := by
  unfold chk
  rw [List.getElem?_map]
  by_cases h : k * c < L.length
  · rw [if_pos h, List.getElem?_range ((chk_lt hc L k).2 h)]; rfl
  · rw [if_neg h, List.getElem?_eq_none (by rw [List.length_range]; exact Nat.le_of_not_lt fun h2 => h ((chk_lt hc L k).1 h2))]; rfl
theorem take_drop_at (L : List UInt8) (a c j : Nat) : ((L.drop a).take c)[j]? = if j < c then L[a + j]? else none := by
  rw [List.getElem?_take]
  split
  · rw [List.getElem?_drop]
  · rfl
theorem some_ext {x y : List UInt8} (h : ∀ j : Nat, x[j]? = y[j]?) : some x = some y := congrArg some (List.ext_getElem? h)
theorem chk_flat {c : Nat} (hc : 0 < c) : ∀ (n : Nat) (L : List UInt8), L.length ≤ n → (chk c L).flatten = L := by
  intro n
  induction n with
  | zero =>
    intro L hL
    obtain rfl := List.eq_nil_of_length_eq_zero (by omega : L.length = 0)
    unfold chk
    have : ([] : List UInt8).length + c - 1 = c - 1 := by simp
    rw [this, Nat.div_eq_of_lt (by omega)]; rfl
  | succ n ih =>
    intro L hL
    by_cases h0 : L.length = 0
    · exact ih L (by omega)
    · have e : chk c L = L.take c :: chk c (L.drop c) := by
        apply List.ext_getElem?
        intro k
        cases k with
        | zero =>
          rw [chk_at hc, Nat.zero_mul, if_pos (by omega)]; rfl
        | succ k =>
          rw [chk_at hc, List.getElem?_cons_succ, chk_at hc, List.length_drop, List.drop_drop, show (k + 1) * c = c + k * c from by rw [Nat.add_mul]; omega]
          by_cases h : c + k * c < L.length
          · rw [if_pos h, if_pos (by omega)]
          · rw [if_neg h, if_neg (by omega)]
      rw [e, List.flatten_cons, ih (L.drop c) (by rw [List.length_drop]; omega), List.take_append_drop]
/-- one piece more. -/
theorem chk_app {c : Nat} (hc : 0 < c) (L r : List UInt8) {n : Nat} (hn : (chk c L).length = n + 1) {b : List UInt8} (hb : (chk c L)[n]? = some b) (h : b.length + r.length ≤ c) : chk c (L ++ r) = setP (chk c L) n (b ++ r) := by
  rw [chk_len] at hn
  have h1 : n * c < L.length := (chk_lt hc L n).1 (by rw [hn]; omega)
  have h2 : ¬ (n + 1) * c < L.length := fun h => by have := (chk_lt hc L (n + 1)).2 h; rw [hn] at this; omega
  rw [Nat.add_mul] at h2
  rw [chk_at hc, if_pos h1] at hb
  have hbb : b = (L.drop (n * c)).take c := (Option.some.inj hb).symm
  have hbl : b.length = L.length - n * c := by rw [hbb, List.length_take, List.length_drop]; omega
  apply List.ext_getElem?
  intro k
  rw [setP_at (by rw [chk_len]; omega), chk_at hc, chk_at hc, List.length_append]
  by_cases e : k = n
  · subst e
    rw [if_pos rfl, if_pos (by omega)]
    refine some_ext fun j => ?_
    rw [take_drop_at, hbb, List.getElem?_append, List.getElem?_append, List.length_take, List.length_drop, take_drop_at]
    by_cases hj : j < c
    · rw [if_pos hj]
      by_cases h3 : k * c + j < L.length
      · rw [if_pos h3, if_pos (by omega), if_pos hj]
      · rw [if_neg h3, if_neg (by omega)]
        congr 1; omega
    · rw [if_neg hj, if_neg (by omega), List.getElem?_eq_none (by omega)]
  · rw [if_neg e]
    by_cases hk : k < n
    · have := Nat.mul_le_mul_right c (show k + 1 ≤ n by omega)
      rw [Nat.add_mul] at this
      rw [if_pos (by omega), if_pos (by omega)]
      refine some_ext fun j => ?_
      rw [take_drop_at, take_drop_at]
      split
      · rw [List.getElem?_append_left (by omega)]
      · rfl
    · have := Nat.mul_le_mul_right c (show n + 1 ≤ k by omega)
      rw [Nat.add_mul] at this
      rw [if_neg (by omega), if_neg (by omega)]
/-- .. on a page of its own. -/
theorem chk_new {c : Nat} (hc : 0 < c) (L r : List UInt8) {n : Nat} (hn : (chk c L).length = n) (hL : L.length = n * c) (hr : 0 < r.length ∧ r.length ≤ c) : chk c (L ++ r) = setP (chk c L) n r := by
  apply List.ext_getElem?
  intro k
  rw [setP_at (by omega), chk_at hc, chk_at hc, List.length_append]
  by_cases e : k = n
  · subst e
    rw [if_pos rfl, if_pos (by omega)]
    refine some_ext fun j => ?_
    rw [take_drop_at, List.getElem?_append]
    by_cases hj : j < c
    · rw [if_pos hj, if_neg (by omega)]
      congr 1; omega
    · rw [if_neg hj, List.getElem?_eq_none (by omega)]
  · rw [if_neg e]
    by_cases hk : k < n
    · have := Nat.mul_le_mul_right c (show k + 1 ≤ n by omega)
      rw [Nat.add_mul] at this
      rw [if_pos (by omega), if_pos (by omega)]
      refine some_ext fun j => ?_
      rw [take_drop_at, take_drop_at]
      split
      · rw [List.getElem?_append_left (by omega)]
      · rfl
    · have := Nat.mul_le_mul_right c (show n + 1 ≤ k by omega)
      rw [Nat.add_mul] at this
      rw [if_neg (by omega), if_neg (by omega)]
/-- a piece is another one. -/
theorem chk_over {c : Nat} (hc : 0 < c) (L r : List UInt8) {k0 q : Nat} (hq : q + r.length ≤ c) (hL : k0 * c + q + r.length ≤ L.length) (hr : 0 < r.length) {b : List UInt8} (hb : (chk c L)[k0]? = some b) : chk c (overZ L (k0 * c + q) r) = setP (chk c L) k0 (overZ b q r) := by
  have h1 : k0 * c < L.length := by omega
  have hlen : (overZ L (k0 * c + q) r).length = L.length := by rw [overZ_len8 (by omega)]; omega
  rw [chk_at hc, if_pos h1] at hb
  have hbb : b = (L.drop (k0 * c)).take c := (Option.some.inj hb).symm
  have hbl : q + r.length ≤ b.length := by rw [hbb, List.length_take, List.length_drop]; omega
  apply List.ext_getElem?
  intro k
  rw [setP_at (by rw [chk_len]; exact Nat.le_of_lt ((chk_lt hc L k0).2 h1)), chk_at hc, chk_at hc, hlen]
  by_cases e : k = k0
  · subst e
    rw [if_pos rfl, if_pos h1]
    refine some_ext fun j => ?_
    rw [take_drop_at, overZ_at (by omega), overZ_at (by omega), hbb, take_drop_at]
    by_cases hj : j < c
    · rw [if_pos hj, if_pos hj]
      by_cases h3 : j < q
      · rw [if_pos (by omega), if_pos h3]
      · rw [if_neg (by omega), if_neg h3]
        by_cases h4 : j < q + r.length
        · rw [if_pos (by omega), if_pos h4]
          congr 1; omega
        · rw [if_neg (by omega), if_neg h4]
    · rw [if_neg hj, if_neg (by omega), if_neg (by omega), if_neg hj]
  · rw [if_neg e]
    by_cases hk : k * c < L.length
    · rw [if_pos hk, if_pos hk]
      refine some_ext fun j => ?_
      rw [take_drop_at, take_drop_at]
      by_cases hj : j < c
      · rw [if_pos hj, if_pos hj, overZ_at (by omega)]
        by_cases hlt : k < k0
        · have := Nat.mul_le_mul_right c (show k + 1 ≤ k0 by omega)
          rw [Nat.add_mul] at this
          rw [if_pos (by omega)]
        · have := Nat.mul_le_mul_right c (show k0 + 1 ≤ k by omega)
          rw [Nat.add_mul] at this
          rw [if_neg (by omega), if_neg (by omega)]
      · rw [if_neg hj, if_neg hj]
    · rw [if_neg hk, if_neg hk]
/-- rows of one size. -/
def rowsOk (size : Nat) (l : List (List UInt8)) : Prop := ∀ r ∈ l, r.length = size
theorem flat_rows {size : Nat} : ∀ {l : List (List UInt8)}, rowsOk size l → l.flatten.length = l.length * size
  | [], _ => by simp
  | a :: l, h => by
    rw [List.flatten_cons, List.length_append, h a (by simp), flat_rows (fun r hr => h r (by simp [hr])), List.length_cons, Nat.add_mul]; omega
theorem flat_row {size : Nat} : ∀ {l : List (List UInt8)}, rowsOk size l → ∀ {i : Nat} {r : List UInt8}, l[i]? = some r → (l.flatten.drop (i * size)).take size = r
  | [], _, i, r, h => by simp at h
  | a :: l, h, 0, r, hr => by
    have : a = r := by simpa using hr
    subst this
    have := h a (by simp)
    rw [List.flatten_cons, Nat.zero_mul, List.drop_zero, ← this, List.take_left]
  | a :: l, h, i + 1, r, hr => by
    have e := h a (by simp)
    rw [List.flatten_cons, show (i + 1) * size = a.length + i * size from by rw [Nat.add_mul, e]; omega, List.drop_append, List.drop_of_length_le (by omega), List.nil_append, show a.length + i * size - a.length = i * size from by omega]
    exact flat_row (fun r hr => h r (by simp [hr])) (by simpa using hr)
theorem flat_set_row {size : Nat} : ∀ {l : List (List UInt8)}, rowsOk size l → ∀ {i : Nat}, i < l.length → ∀ {r : List UInt8}, r.length = size → (l.set i r).flatten = overZ l.flatten (i * size) r
  | [], _, i, h, r, _ => by simp at h
  | a :: l, h, 0, _, r, hr => by
    have e := h a (by simp)
    unfold overZ
    rw [List.set_cons_zero, List.flatten_cons, List.flatten_cons, Nat.zero_mul, List.take_zero, List.nil_append, Nat.zero_add, hr, ← e, List.drop_left]
  | a :: l, h, i + 1, hi, r, hr => by
    have e := h a (by simp)
    have ih := flat_set_row (l := l) (fun r hr => h r (by simp [hr])) (i := i) (by simpa using hi) hr
    rw [List.set_cons_succ, List.flatten_cons, List.flatten_cons, ih]
    unfold overZ
    have e1 : (i + 1) * size = a.length + i * size := by rw [Nat.add_mul, e]; omega
    have t1 : (a ++ l.flatten).take (a.length + i * size) = a ++ l.flatten.take (i * size) := by
      rw [List.take_append, List.take_of_length_le (by omega), show a.length + i * size - a.length = i * size from by omega]
    have t2 : (a ++ l.flatten).drop (a.length + (i * size + r.length)) = l.flatten.drop (i * size + r.length) := by
      rw [List.drop_append, List.drop_of_length_le (by omega), List.nil_append, show a.length + (i * size + r.length) - a.length = i * size + r.length from by omega]
    rw [e1, Nat.add_assoc, t1, t2]
    simp only [List.append_assoc]
end Go.Proofs.Ytkfokgjpeaibpaa

/- pool: New, Create; a frame taken that is empty. -/
namespace Go.Proofs.Ytkfokgjpeaibpaa
open Go.RowKit Go.Maps
set_option maxRecDepth 100000
set_option maxHeartbeats 400000

section
variable {w w' : World} {B d p g mb nm : Nat} {o : Own1} {P : Pl} {S : Dk} {c : Con}
theorem pdisk_any (h : PoR w B o d p g mb P nm) : Calls Try.prog 48 #[.pointer (some ⟨p, 0, none⟩)] w fun e w' => e = .returned (.pointer (some ⟨d, 0, none⟩)) ∧ w = w' := by
  obtain ⟨s0, -⟩ := h.selfc
  clear h
  go_enter Try.func48, Try.ntmps48
  go_wp2
  go_ret
  exact ⟨rfl, rfl⟩
theorem pframes_any (h : PoR w B o d p g mb P nm) : Calls Try.prog 49 #[.pointer (some ⟨p, 0, none⟩)] w fun e w' => e = .returned (.int .i64 P.fr.length) ∧ w = w' := by
  obtain ⟨-, s1, -⟩ := h.selfc
  clear h
  go_enter Try.func49, Try.ntmps49
  go_wp2
  go_ret
  exact ⟨rfl, rfl⟩
theorem pocreate_any (h : DI w B o d S c) (hp : PoR w B o d p g mb P nm) {n : List UInt8} (hn : n.length ≤ 1000000000) (hfl : S.fs.length ≤ 1000000) :
    Calls Try.prog 21 #[.pointer (some ⟨p, 0, none⟩), .string ⟨n.toArray⟩] w fun e w' => e = .returned (.int .i64 (S.create n).2) ∧ ∃ o' c', DI w' B o' d (S.create n).1 c' ∧ Ch o w o' w' ∧ PoR w' B o' d p g mb P nm := by
  obtain ⟨s0, -⟩ := hp.selfc
  have HC := Lib.hid (pcreate_any h hn hfl)
  have HP := Lib.hid hp
  clear h hp
  go_enter Try.func21, Try.ntmps21
  obtain ⟨X, hX⟩ : ∃ X, X = S.create n := ⟨_, rfl⟩
  rw [← hX] at HC ⊢
  clear hX
  go_wp2_with fail
  refine HC.out.mono ?_
  rintro e w1 ⟨o', c', h1, ch, ⟨e0, pf, rfl, -, -⟩ | ⟨e0, rfl⟩⟩
  · have H1 := Lib.hid h1
    have CH := Lib.hid ch
    have E0 := Lib.hid e0
    clear h1 ch e0
    go_wp2
    go_ret
    exact ⟨by rw [E0.out]; rfl, o', c', H1.out, CH.out, HP.out.ch CH.out⟩
  · have H1 := Lib.hid h1
    have CH := Lib.hid ch
    clear h1 ch e0
    go_wp2
    go_ret
    exact ⟨rfl, o', c', H1.out, CH.out, HP.out.ch CH.out⟩
theorem Try.infoFr : (Try.prog.info? 77).map (fun i => (i.zero, i.size, i.bytes)) = some (some (.agg #[.bool false, .string ⟨#[]⟩, .int .i64 0, .slice none 0 0, .int .i64 0, .bool false, .bool false]), 7, 72) := by kernel_rfl
def zFr : Array Value := #[.bool false, .string ⟨#[]⟩, .int .i64 0, .slice none 0 0, .int .i64 0, .bool false, .bool false]
theorem made_frames (n : Nat) : madeCells zFr (n * 7) = ((List.replicate n fr0).flatMap Fr.enc).toArray := by
  apply Array.ext_getElem?
  intro j
  have e : ((List.replicate n fr0).flatMap Fr.enc).toArray[j]? = ((List.replicate n fr0).flatMap Fr.enc)[j]? := by simp
  rw [e]
  clear e
  have hlen : ((List.replicate n fr0).flatMap Fr.enc).length = n * 7 := by
    clear j
    induction n with
    | zero => rfl
    | succ n ih => rw [List.replicate_succ, List.flatMap_cons, List.length_append, ih, fr7]; omega
  by_cases hj : j < n * 7
  · have h1 := flat_at fr7 (List.replicate n fr0) (i := j / 7) (by simp; omega) (j := j % 7) (by omega)
    rw [show j / 7 * 7 + j % 7 = j from by omega] at h1
    rw [h1, List.getElem_replicate]
    simp only [madeCells, Array.getElem?_map, Array.getElem?_range, hj, if_true, Option.map_some]
    have h7 : j % 7 < 7 := by omega
    show some (zFr[j % 7]!) = _
    generalize j % 7 = r at h7
    rcases (by omega : r = 0 ∨ r = 1 ∨ r = 2 ∨ r = 3 ∨ r = 4 ∨ r = 5 ∨ r = 6) with rfl | rfl | rfl | rfl | rfl | rfl | rfl <;> rfl
  · rw [Array.getElem?_eq_none (by rw [size_madeCells]; omega), List.getElem?_eq_none (by omega)]
def frs0 (n : Nat) : Array Value := ((List.replicate n fr0).flatMap Fr.enc).toArray
theorem make_frames (n : Nat) (hn : n ≤ 4096) (w : World) : (Instr.makeSlice 70 (.int .i64 (n : Int)) (.int .i64 (n : Int))).run Try.prog w = .ok (.slice (some ⟨w.heap.size, 0, none⟩) n n) (w.alloc (.cells (frs0 n) 77)) := by
  unfold frs0
  obtain ⟨i, hi, hz, hs, hb⟩ := info_parts Try.infoFr
  have h := run_makeSlice w 70 77 i _ Try.underlying70 hi hz .i64 .i64 n n (by omega) (by omega) (by rw [hs]; simp; omega) (by rw [hb]; omega) (by omega)
  rw [hs] at h
  simp only [Int.toNat_natCast] at h
  rw [← made_frames]
  exact h
def pl0 (n : Nat) : Pl := ⟨List.replicate n fr0, fun _ => none, 0, 0, 0⟩
theorem ponew_lo (h : DI w B o d S c) (n : Nat) (h1 : 1 ≤ n) (hn : n ≤ 4096) :
    Calls Try.prog 20 #[.pointer (some ⟨d, 0, none⟩), .int .i64 n] w fun e w' => ∃ p g mb, e = .returned (.tuple #[.pointer (some ⟨p, 0, none⟩), .int .i64 0]) ∧ PoR w' B o d p g mb (pl0 n) 0 ∧ w.grownBy w' none ∧ w.heap.size ≤ p ∧ w.heap.size ≤ g ∧ w.heap.size ≤ mb := by
  have d1 : decide ((n : Int) < 1) = false := by simp; omega
  have d2 : decide ((4096 : Int) < (n : Int)) = false := by simp; omega
  have hmk := make_frames n hn
  have hmm := @run_makeMap Try.prog
  have H := Lib.hid h
  clear h
  go_enter Try.func20, Try.ntmps20
  go_wp2
  go_ret2
  clear hmk hmm
  have hne : ∀ i, w.heap.size ≤ i → o i = none := fun i hi => by
    cases e : o i with
    | none => rfl
    | some t => exact absurd (H.out.inb i (by rw [e]; simp)).2 (by omega)
  have hB := H.out.base
  obtain ⟨w1, hw1⟩ : ∃ w1, w1 = w.alloc (.cells (frs0 n) 77) := ⟨_, rfl⟩
  rw [← hw1]
  have z1 : w1.heap.size = w.heap.size + 1 := by rw [hw1, World.size_alloc]
  have b1 : Blk w1 w.heap.size 77 (frs0 n) := by rw [hw1]; exact Blk.new _ _ _
  have g1 : w.grownBy w1 none := by rw [hw1]; exact gr_alloc _ _ none
  clear hw1
  obtain ⟨w2, hw2⟩ : ∃ w2, w2 = w1.alloc (.map #[] 0) := ⟨_, rfl⟩
  rw [← hw2]
  have z2 : w2.heap.size = w.heap.size + 1 + 1 := by rw [hw2, World.size_alloc, z1]
  have b2 : VM pkK w2 (w.heap.size + 1) 0 (fun _ => none) := by rw [hw2, ← z1]; exact VM.made _ _
  have g2 : w1.grownBy w2 none := by rw [hw2]; exact gr_alloc _ _ none
  clear hw2
  obtain ⟨w3, hw3⟩ : ∃ w3, w3 = w2.alloc (.cells #[.pointer (some ⟨d, 0, none⟩), .slice (some ⟨w.heap.size, 0, none⟩) n n, .map (some (w.heap.size + 1)), .int .i64 0, .int .i64 0, .int .i64 0] 73) := ⟨_, rfl⟩
  rw [← hw3]
  have b3 : Blk w3 (w.heap.size + 1 + 1) 73 #[.pointer (some ⟨d, 0, none⟩), .slice (some ⟨w.heap.size, 0, none⟩) n n, .map (some (w.heap.size + 1)), .int .i64 0, .int .i64 0, .int .i64 0] := by rw [hw3, ← z2]; exact Blk.new _ _ _
  have g3 : w2.grownBy w3 none := by rw [hw3]; exact gr_alloc _ _ none
  clear hw3
  refine ⟨w.heap.size + 1 + 1, w.heap.size, w.heap.size + 1, rfl, ⟨?_, (b1.ext g2).ext g3, b2.ext g3, fun x i => ?_, fun x hx => ?_, ⟨hne _ (by omega), hne _ (by omega), hne _ (by omega)⟩, ⟨by omega, by omega, by omega⟩, ⟨by omega, by omega, by omega⟩, ?_⟩, gr_none (gr_none g1 g2) g3, by omega, by omega, by omega⟩
  · show Blk w3 _ _ #[_, .slice (some ⟨w.heap.size, 0, none⟩) (List.replicate n fr0).length (List.replicate n fr0).length, _, _, _, _]
    rw [List.length_replicate]
    exact b3
  · show none = some i ↔ ∃ h : i < (List.replicate n fr0).length, ((List.replicate n fr0)[i]).full = true ∧ _
    constructor
    · intro e; cases e
    · rintro ⟨h, e, -⟩
      rw [List.getElem_replicate] at e
      cases e
  · have hx2 : x = fr0 := (List.mem_replicate.1 hx).2
    subst hx2
    exact ⟨Rd.nil _ _, (fun q e => by cases e), ⟨by simp [fr0], by simp [fr0], by simp [fr0], by simp [fr0]⟩⟩
  · show 1 ≤ (List.replicate n fr0).length ∧ (List.replicate n fr0).length ≤ 4096 ∧ 0 < (List.replicate n fr0).length ∧ 0 ≤ 4096 ∧ 0 ≤ 4096
    rw [List.length_replicate]
    exact ⟨h1, hn, by omega, by omega, by omega⟩
theorem ponew_any (h : DI w B o d S c) (n : Nat) (h1 : 1 ≤ n) (hn : n ≤ 4096) :
    Calls Try.prog 20 #[.pointer (some ⟨d, 0, none⟩), .int .i64 n] w fun e w' => ∃ p g mb, e = .returned (.tuple #[.pointer (some ⟨p, 0, none⟩), .int .i64 0]) ∧ PoR w' B o d p g mb (pl0 n) 0 ∧ w.grownBy w' none :=
  (ponew_lo h n h1 hn).mono fun _ _ ⟨p, g, mb, e, k1, k2, _⟩ => ⟨p, g, mb, e, k1, k2⟩
set_option maxHeartbeats 2000000 in
theorem take_free (h : PoR w B o d p g mb P nm) {i : Nat} (hi : i < P.fr.length) (h0 : P.fr[i].full = false) (hb : ∀ j (hj : j < P.fr.length), j < i → P.fr[j].full = true) :
    Calls Try.prog 40 #[.pointer (some ⟨p, 0, none⟩)] w fun e w' => e = .returned (.tuple #[.int .i64 i, .int .i64 0]) ∧ w.grownBy w' none := by
  obtain ⟨s0, s1, -⟩ := h.selfc
  have HF := Lib.hid h.fr
  have HB := Lib.hid h.bytes
  have hl := h.lim.2.1
  have HA := Lib.hid hb
  have H0 := Lib.hid h0
  clear h hb h0
  obtain ⟨fr, wh, hand, mf, mp⟩ := P
  dsimp only at s1 hl hi HF HB HA H0
  go_enter Try.func40, Try.ntmps40
  go_wp2
  go_step3
  go_wp2
  go_loopw [4, 5, 15] (fun _ _ k wr => ∃ j : Nat, j ≤ i ∧ k = .int .i64 j ∧ w.grownBy wr none) (fun _ _ k _ => fr.length - (intOf k).toNat)
  case atStart => exact ⟨0, by omega, rfl, gr_refl _ _⟩
  case round =>
    obtain ⟨j, hj, rfl, hg⟩ := hrel
    have HG := Lib.hid hg
    have hlt : j < fr.length := by omega
    have hb := HB.out _ (List.getElem_mem hlt)
    obtain ⟨x, hx⟩ : ∃ x, x = fr[j] := ⟨_, rfl⟩
    rw [← hx] at hb
    obtain ⟨c0, c1, c2, c3, c4, c5, c6⟩ := frame_cells (HF.out.ext hg) hlt hx.symm
    obtain ⟨Ab, cb, hbv⟩ := hb.rd.form
    rw [hbv] at c3
    have hfull : x.full = decide (j < i) := by
      by_cases hji : j < i
      · rw [hx, HA.out j hlt hji]; simp [hji]
      · obtain rfl : j = i := by omega
        rw [hx, H0.out]; simp
    obtain ⟨xf, xn, xk, xb, xv, xp, xd, xu⟩ := x
    simp only [] at hfull c0 c1 c2 c3 c4 c5 c6
    subst hfull
    clear hx hb hbv hg
    by_cases hji : j < i
    · have hd : decide (j < i) = true := by simpa using hji
      rw [hd] at c0
      clear hd
      go_wp2
      go_roundw
      case rel => exact ⟨j + 1, by omega, by go_num, gr_none HG.out (gr_alloc _ _ _)⟩
      case measure => simp [intOf] <;> omega
    · obtain rfl : j = i := by omega
      have hd : decide (j < j) = false := by simp
      rw [hd] at c0
      clear hd
      go_wp2
      try rw [Exit.noGoto_ret]
      go_ret2
      exact ⟨rfl, gr_none HG.out (gr_alloc _ _ _)⟩
end
end Go.Proofs.Ytkfokgjpeaibpaa
