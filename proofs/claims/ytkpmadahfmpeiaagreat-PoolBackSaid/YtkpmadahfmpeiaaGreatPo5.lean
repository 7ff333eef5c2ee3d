/-
  pool, any of it: what its functions do, as plain data.
-/
import Derived.Test.YtkpmadahfmpeiaaGreatRm
import Derived.Laws.MakeOwn
import Derived.WalkMore
namespace Go.Proofs.YtkpmadahfmpeiaaGreat
set_option maxRecDepth 100000

structure Pm where
  fr : List Fr
  hand : Nat
  mf : Nat
  mp : Nat
def Fr.clean (f : Fr) : Fr := { f with dirty := false }
def Fr.rest (f : Fr) : Fr := { f with used := false }
def Fr.usedUp (f : Fr) : Fr := { f with used := true }
def Pm.noted (Q : Pm) : Pm := { Q with mf := max Q.mf (heldN Fr.full Q.fr), mp := max Q.mp (heldN (fun f => decide (0 < f.pins)) Q.fr) }
def isP (n : List UInt8) (k : Int) (f : Fr) : Bool := f.full && (f.n == n && f.k == k)
def Pm.at (Q : Pm) (n : List UInt8) (k : Int) : Option Nat := Q.fr.findIdx? (isP n k)
def Pm.free (Q : Pm) : Option Nat := Q.fr.findIdx? fun f => !f.full
def Pm.set (Q : Pm) (i : Nat) (x : Fr) : Pm := { Q with fr := Q.fr.set i x }
def Pm.fill (Q : Pm) (i : Nat) (f : Fr) : Pm := (Q.set i { f with full := true }).noted
/-- the hand goes round. -/
def clock : Nat → List Fr → Nat → List Fr × Nat
  | 0, fr, i => (fr, i)
  | t + 1, fr, i => match fr[i]? with
    | none => (fr, i)
    | some f => if 0 < f.pins then clock t fr ((i + 1) % fr.length) else if f.used then clock t (fr.set i f.rest) ((i + 1) % fr.length) else (fr, i)
theorem clock_len : ∀ (t : Nat) (fr : List Fr) (i : Nat), (clock t fr i).1.length = fr.length
  | 0, _, _ => rfl
  | t + 1, fr, i => by
    unfold clock
    split
    · rfl
    · split
      · exact clock_len t _ _
      · split
        · rw [clock_len t]; simp
        · rfl
theorem clock_lt : ∀ (t : Nat) (fr : List Fr) (i : Nat), i < fr.length → (clock t fr i).2 < fr.length
  | 0, _, _, h => h
  | t + 1, fr, i, h => by
    unfold clock
    split
    · exact h
    · split
      · exact clock_lt t _ _ (Nat.mod_lt _ (by omega))
      · split
        · have := clock_lt t (fr.set i (by assumption : Fr).rest) ((i + 1) % fr.length) (by simp; exact Nat.mod_lt _ (by omega))
          simpa using this
        · exact h
def dirtyF (n : List UInt8) (a b : Int) (f : Fr) : Bool := f.full && (f.dirty && (f.n == n && (decide (a ≤ f.k) && decide (f.k < b))))
def dirtyIx (fr : List Fr) (n : List UInt8) (a b : Int) : List Nat := (List.range fr.length).filter fun i => match fr[i]? with
  | none => false
  | some f => dirtyF n a b f
def kOf (fr : List Fr) (i : Nat) : Int := match fr[i]? with
  | some f => f.k
  | none => 0
/-- the dirty frames of a file, from a page on, below another one, rising. -/
def dirtyL (fr : List Fr) (n : List UInt8) (a b : Int) : List Nat := (dirtyIx fr n a b).mergeSort fun i j => decide (kOf fr i ≤ kOf fr j)
/-- frames, disk, error. -/
structure PutR where
  fr : List Fr
  S : Dk
  e : Nat
def putL (n : List UInt8) : List Nat → List Fr → Dk → PutR
  | [], fr, S => ⟨fr, S, 0⟩
  | i :: l, fr, S => match fr[i]? with
    | none => ⟨fr, S, 0⟩
    | some f => if (S.pwrite n f.k f.b).2 ≠ 0 then ⟨fr, (S.pwrite n f.k f.b).1, (S.pwrite n f.k f.b).2⟩ else putL n l (fr.set i f.clean) (S.pwrite n f.k f.b).1
def backP (fr : List Fr) (S : Dk) (i : Nat) : PutR := match fr[i]? with
  | none => ⟨fr, S, 0⟩
  | some f => if (S.pgs f.n).2 ≠ 0 then ⟨fr, S, (S.pgs f.n).2⟩ else putL f.n (dirtyL fr f.n (S.pgs f.n).1 f.k ++ [i]) fr S
/-- a place, an error, the pool, the disk. -/
structure TakeR where
  i : Nat
  e : Nat
  Q : Pm
  S : Dk
def takeC (Q : Pm) (S : Dk) (fr : List Fr) (i : Nat) : TakeR := match fr[i]? with
  | none => ⟨0, 10, Q, S⟩
  | some f =>
    if 0 < f.pins ∨ f.used = true then ⟨0, 10, { Q with fr := fr }, S⟩
    else if f.dirty = true then
      if (backP fr S i).e ≠ 0 then ⟨0, (backP fr S i).e, { Q with fr := (backP fr S i).fr, hand := i }, (backP fr S i).S⟩
      else ⟨i, 0, { Q with fr := (backP fr S i).fr.set i fr0, hand := (i + 1) % fr.length }, (backP fr S i).S⟩
    else ⟨i, 0, { Q with fr := fr.set i fr0, hand := (i + 1) % fr.length }, S⟩
def Pm.take (Q : Pm) (S : Dk) : TakeR := match Q.free with
  | some i => ⟨i, 0, Q, S⟩
  | none => takeC Q S (clock (2 * Q.fr.length) Q.fr Q.hand).1 (clock (2 * Q.fr.length) Q.fr Q.hand).2
/-- how many pages, or an error. -/
def Pm.pages (Q : Pm) (S : Dk) (n : List UInt8) : Int × Nat := if (S.pgs n).2 ≠ 0 then (0, (S.pgs n).2) else (pagesN Q.fr n (S.pgs n).1, 0)
def frR (n : List UInt8) (k : Int) (b : List UInt8) (v : Value) : Fr := ⟨true, n, k, b, v, 0, false, true⟩
def bringR (Q : Pm) (S : Dk) (n : List UInt8) (k : Int) (v : Value) : TakeR :=
  if (S.pread n k).2 ≠ 0 then ⟨0, (S.pread n k).2, Q, S⟩
  else if (Q.take S).e ≠ 0 then ⟨0, (Q.take S).e, (Q.take S).Q, (Q.take S).S⟩
  else ⟨(Q.take S).i, 0, (Q.take S).Q.fill (Q.take S).i (frR n k (S.pread n k).1 v), (Q.take S).S⟩
/-- v: where the page that comes in lies. -/
def Pm.bring (Q : Pm) (S : Dk) (n : List UInt8) (k : Int) (v : Value) : TakeR :=
  if (Q.pages S n).2 ≠ 0 then ⟨0, (Q.pages S n).2, Q, S⟩
  else if k < 0 then ⟨0, 1, Q, S⟩
  else if (Q.pages S n).1 ≤ k then ⟨0, 3, Q, S⟩
  else match Q.at n k with
  | some i => ⟨i, 0, { Q with fr := Q.fr.modify i Fr.usedUp }, S⟩
  | none => bringR Q S n k v
def Pm.bytes (Q : Pm) (i : Nat) : List UInt8 := match Q.fr[i]? with
  | some f => f.b
  | none => []
/-- bytes, error, pool, disk. -/
structure ReadR where
  b : List UInt8
  e : Nat
  Q : Pm
  S : Dk
def Pm.read (Q : Pm) (S : Dk) (n : List UInt8) (k : Int) (v : Value) : ReadR :=
  if (Q.bring S n k v).e ≠ 0 then ⟨[], (Q.bring S n k v).e, (Q.bring S n k v).Q, (Q.bring S n k v).S⟩
  else ⟨(Q.bring S n k v).Q.bytes (Q.bring S n k v).i, 0, (Q.bring S n k v).Q, (Q.bring S n k v).S⟩
def Pm.pinUp (Q : Pm) (i : Nat) : Pm := ({ Q with fr := Q.fr.modify i fun f => { f with pins := f.pins + 1 } } : Pm).noted
def Pm.pin (Q : Pm) (S : Dk) (n : List UInt8) (k : Int) (v : Value) : ReadR :=
  if (Q.bring S n k v).e ≠ 0 then ⟨[], (Q.bring S n k v).e, (Q.bring S n k v).Q, (Q.bring S n k v).S⟩
  else ⟨(Q.bring S n k v).Q.bytes (Q.bring S n k v).i, 0, (Q.bring S n k v).Q.pinUp (Q.bring S n k v).i, (Q.bring S n k v).S⟩
def Pm.pinsAt (Q : Pm) (i : Nat) : Nat := match Q.fr[i]? with
  | some f => f.pins
  | none => 0
def Pm.unpin (Q : Pm) (n : List UInt8) (k : Int) : Pm × Nat := match Q.at n k with
  | none => (Q, 3)
  | some i => if Q.pinsAt i = 0 then (Q, 3) else ({ Q with fr := Q.fr.modify i fun f => { f with pins := f.pins - 1 } }, 0)
def Pm.wrote (Q : Pm) (i : Nat) (b : List UInt8) (v : Value) : Pm := { Q with fr := Q.fr.modify i fun f => { f with b := b, bv := v, dirty := true, used := true } }
structure WriteR where
  e : Nat
  Q : Pm
  S : Dk
def Pm.write (Q : Pm) (S : Dk) (n : List UInt8) (k : Int) (b : List UInt8) (v : Value) : WriteR :=
  if 240 < b.length then ⟨9, Q, S⟩
  else if (Q.pages S n).2 ≠ 0 then ⟨(Q.pages S n).2, Q, S⟩
  else if k < 0 ∨ (Q.pages S n).1 < k then ⟨1, Q, S⟩
  else match Q.at n k with
  | some i => ⟨0, Q.wrote i b v, S⟩
  | none => if (Q.take S).e ≠ 0 then ⟨(Q.take S).e, (Q.take S).Q, (Q.take S).S⟩
    else ⟨0, ((Q.take S).Q.fill (Q.take S).i ⟨true, n, k, [], .slice none 0 0, 0, false, false⟩).wrote (Q.take S).i b v, (Q.take S).S⟩
def Pm.flush (Q : Pm) (S : Dk) (n : List UInt8) : WriteR :=
  if (S.pgs n).2 ≠ 0 then ⟨(S.pgs n).2, Q, S⟩
  else if (putL n (dirtyL Q.fr n 0 16777216) Q.fr S).e ≠ 0 then ⟨(putL n (dirtyL Q.fr n 0 16777216) Q.fr S).e, { Q with fr := (putL n (dirtyL Q.fr n 0 16777216) Q.fr S).fr }, (putL n (dirtyL Q.fr n 0 16777216) Q.fr S).S⟩
  else ⟨((putL n (dirtyL Q.fr n 0 16777216) Q.fr S).S.sync n).2, { Q with fr := (putL n (dirtyL Q.fr n 0 16777216) Q.fr S).fr }, ((putL n (dirtyL Q.fr n 0 16777216) Q.fr S).S.sync n).1⟩
def ofN (n : List UInt8) (f : Fr) : Bool := f.full && f.n == n
def Pm.drop (Q : Pm) (S : Dk) (n : List UInt8) : WriteR :=
  if (Q.fr.any fun f => ofN n f && decide (0 < f.pins)) = true then ⟨10, Q, S⟩
  else ⟨(S.remove n).2, { Q with fr := Q.fr.map fun f => if ofN n f then fr0 else f }, (S.remove n).1⟩
end Go.Proofs.YtkpmadahfmpeiaaGreat

/- pool: New, Create; a frame taken that is empty. -/
namespace Go.Proofs.YtkpmadahfmpeiaaGreat
open Go.RowKit Go.Maps
set_option maxRecDepth 100000
set_option maxHeartbeats 400000

section
variable {w w' : World} {B d p g mb nm : Nat} {o : Own1} {P : Pl} {S : Dk} {c : Con}
theorem pdisk_any (h : PoR w B o d p g mb P nm) : Calls Tryz.prog 43 #[.pointer (some ⟨p, 0, none⟩)] w fun e w' => e = .returned (.pointer (some ⟨d, 0, none⟩)) ∧ w = w' := by
  obtain ⟨s0, -⟩ := h.selfc
  clear h
  go_enter Tryz.func43, Tryz.ntmps43
  go_wp2
  go_ret
  exact ⟨rfl, rfl⟩
theorem pframes_any (h : PoR w B o d p g mb P nm) : Calls Tryz.prog 44 #[.pointer (some ⟨p, 0, none⟩)] w fun e w' => e = .returned (.int .i64 P.fr.length) ∧ w = w' := by
  obtain ⟨-, s1, -⟩ := h.selfc
  clear h
  go_enter Tryz.func44, Tryz.ntmps44
  go_wp2
  go_ret
  exact ⟨rfl, rfl⟩
theorem pocreate_any (h : DI w B o d S c) (hp : PoR w B o d p g mb P nm) {n : List UInt8} (hn : n.length ≤ 1000000000) (hfl : S.fs.length ≤ 1000000) :
    Calls Tryz.prog 45 #[.pointer (some ⟨p, 0, none⟩), .string ⟨n.toArray⟩] w fun e w' => e = .returned (.int .i64 (S.create n).2) ∧ ∃ o' c', DI w' B o' d (S.create n).1 c' ∧ Ch o w o' w' ∧ PoR w' B o' d p g mb P nm := by
  obtain ⟨s0, -⟩ := hp.selfc
  have HC := Lib.hid (pcreate_any h hn hfl)
  have HP := Lib.hid hp
  clear h hp
  go_enter Tryz.func45, Tryz.ntmps45
  obtain ⟨X, hX⟩ : ∃ X, X = S.create n := ⟨_, rfl⟩
  rw [← hX] at HC ⊢
  clear hX
  go_wp2_with fail
  refine HC.out.mono ?_
  rintro e w1 ⟨o', c', h1, ch, ⟨e0, pf, rfl, -, -⟩ | ⟨e0, rfl⟩⟩
  · have H1 := Lib.hid h1
    have CH := Lib.hid ch
    have E0 := Lib.hid e0
    clear h1 ch e0
    go_wp2
    go_ret
    exact ⟨by rw [E0.out]; rfl, o', c', H1.out, CH.out, HP.out.ch CH.out⟩
  · have H1 := Lib.hid h1
    have CH := Lib.hid ch
    clear h1 ch e0
    go_wp2
    go_ret
    exact ⟨rfl, o', c', H1.out, CH.out, HP.out.ch CH.out⟩
theorem Tryz.infoFr : (Tryz.prog.info? 134).map (fun i => (i.zero, i.size, i.bytes)) = some (some (.agg #[.bool false, .string ⟨#[]⟩, .int .i64 0, .slice none 0 0, .int .i64 0, .bool false, .bool false]), 7, 72) := by kernel_rfl
def zFr : Array Value := #[.bool false, .string ⟨#[]⟩, .int .i64 0, .slice none 0 0, .int .i64 0, .bool false, .bool false]
theorem made_frames (n : Nat) : madeCells zFr (n * 7) = ((List.replicate n fr0).flatMap Fr.enc).toArray := by
  apply Array.ext_getElem?
  intro j
  have e : ((List.replicate n fr0).flatMap Fr.enc).toArray[j]? = ((List.replicate n fr0).flatMap Fr.enc)[j]? := by simp
  rw [e]
  clear e
  have hlen : ((List.replicate n fr0).flatMap Fr.enc).length = n * 7 := by
    clear j
    induction n with
    | zero => rfl
    | succ n ih => rw [List.replicate_succ, List.flatMap_cons, List.length_append, ih, fr7]; omega
  by_cases hj : j < n * 7
  · have h1 := flat_at fr7 (List.replicate n fr0) (i := j / 7) (by simp; omega) (j := j % 7) (by omega)
    rw [show j / 7 * 7 + j % 7 = j from by omega] at h1
    rw [h1, List.getElem_replicate]
    simp only [madeCells, Array.getElem?_map, Array.getElem?_range, hj, if_true, Option.map_some]
    have h7 : j % 7 < 7 := by omega
    show some (zFr[j % 7]!) = _
    generalize j % 7 = r at h7
    rcases (by omega : r = 0 ∨ r = 1 ∨ r = 2 ∨ r = 3 ∨ r = 4 ∨ r = 5 ∨ r = 6) with rfl | rfl | rfl | rfl | rfl | rfl | rfl <;> rfl
  · rw [Array.getElem?_eq_none (by rw [size_madeCells]; omega), List.getElem?_eq_none (by omega)]
def frs0 (n : Nat) : Array Value := ((List.replicate n fr0).flatMap Fr.enc).toArray
theorem make_frames (n : Nat) (hn : n ≤ 4096) (w : World) : (Instr.makeSlice 110 (.int .i64 (n : Int)) (.int .i64 (n : Int))).run Tryz.prog w = .ok (.slice (some ⟨w.heap.size, 0, none⟩) n n) (w.alloc (.cells (frs0 n) 134)) := by
  unfold frs0
  obtain ⟨i, hi, hz, hs, hb⟩ := info_parts Tryz.infoFr
  have h := run_makeSlice w 110 134 i _ Tryz.underlying110 hi hz .i64 .i64 n n (by omega) (by omega) (by rw [hs]; simp; omega) (by rw [hb]; omega) (by omega)
  rw [hs] at h
  simp only [Int.toNat_natCast] at h
  rw [← made_frames]
  exact h
def pl0 (n : Nat) : Pl := ⟨List.replicate n fr0, fun _ => none, 0, 0, 0⟩
theorem ponew_lo (h : DI w B o d S c) (n : Nat) (h1 : 1 ≤ n) (hn : n ≤ 4096) :
    Calls Tryz.prog 11 #[.pointer (some ⟨d, 0, none⟩), .int .i64 n] w fun e w' => ∃ p g mb, e = .returned (.tuple #[.pointer (some ⟨p, 0, none⟩), .int .i64 0]) ∧ PoR w' B o d p g mb (pl0 n) 0 ∧ w.grownBy w' none ∧ w.heap.size ≤ p ∧ w.heap.size ≤ g ∧ w.heap.size ≤ mb := by
  have d1 : decide ((n : Int) < 1) = false := by simp; omega
  have d2 : decide ((4096 : Int) < (n : Int)) = false := by simp; omega
  have hmk := make_frames n hn
  have hmm := @run_makeMap Tryz.prog
  have H := Lib.hid h
  clear h
  go_enter Tryz.func11, Tryz.ntmps11
  go_wp2
  go_ret2
  clear hmk hmm
  have hne : ∀ i, w.heap.size ≤ i → o i = none := fun i hi => by
    cases e : o i with
    | none => rfl
    | some t => exact absurd (H.out.inb i (by rw [e]; simp)).2 (by omega)
  have hB := H.out.base
  obtain ⟨w1, hw1⟩ : ∃ w1, w1 = w.alloc (.cells (frs0 n) 134) := ⟨_, rfl⟩
  rw [← hw1]
  have z1 : w1.heap.size = w.heap.size + 1 := by rw [hw1, World.size_alloc]
  have b1 : Blk w1 w.heap.size 134 (frs0 n) := by rw [hw1]; exact Blk.new _ _ _
  have g1 : w.grownBy w1 none := by rw [hw1]; exact gr_alloc _ _ none
  clear hw1
  obtain ⟨w2, hw2⟩ : ∃ w2, w2 = w1.alloc (.map #[] 0) := ⟨_, rfl⟩
  rw [← hw2]
  have z2 : w2.heap.size = w.heap.size + 1 + 1 := by rw [hw2, World.size_alloc, z1]
  have b2 : VM pkK w2 (w.heap.size + 1) 0 (fun _ => none) := by rw [hw2, ← z1]; exact VM.made _ _
  have g2 : w1.grownBy w2 none := by rw [hw2]; exact gr_alloc _ _ none
  clear hw2
  obtain ⟨w3, hw3⟩ : ∃ w3, w3 = w2.alloc (.cells #[.pointer (some ⟨d, 0, none⟩), .slice (some ⟨w.heap.size, 0, none⟩) n n, .map (some (w.heap.size + 1)), .int .i64 0, .int .i64 0, .int .i64 0] 113) := ⟨_, rfl⟩
  rw [← hw3]
  have b3 : Blk w3 (w.heap.size + 1 + 1) 113 #[.pointer (some ⟨d, 0, none⟩), .slice (some ⟨w.heap.size, 0, none⟩) n n, .map (some (w.heap.size + 1)), .int .i64 0, .int .i64 0, .int .i64 0] := by rw [hw3, ← z2]; exact Blk.new _ _ _
  have g3 : w2.grownBy w3 none := by rw [hw3]; exact gr_alloc _ _ none
  clear hw3
  refine ⟨w.heap.size + 1 + 1, w.heap.size, w.heap.size + 1, rfl, ⟨?_, (b1.ext g2).ext g3, b2.ext g3, fun x i => ?_, fun x hx => ?_, ⟨hne _ (by omega), hne _ (by omega), hne _ (by omega)⟩, ⟨by omega, by omega, by omega⟩, ⟨by omega, by omega, by omega⟩, ?_⟩, gr_none (gr_none g1 g2) g3, by omega, by omega, by omega⟩
  · show Blk w3 _ _ #[_, .slice (some ⟨w.heap.size, 0, none⟩) (List.replicate n fr0).length (List.replicate n fr0).length, _, _, _, _]
    rw [List.length_replicate]
    exact b3
  · show none = some i ↔ ∃ h : i < (List.replicate n fr0).length, ((List.replicate n fr0)[i]).full = true ∧ _
    constructor
    · intro e; cases e
    · rintro ⟨h, e, -⟩
      rw [List.getElem_replicate] at e
      cases e
  · have hx2 : x = fr0 := (List.mem_replicate.1 hx).2
    subst hx2
    exact ⟨Rd.nil _ _, (fun q e => by cases e), ⟨by simp [fr0], by simp [fr0], by simp [fr0], by simp [fr0]⟩⟩
  · show 1 ≤ (List.replicate n fr0).length ∧ (List.replicate n fr0).length ≤ 4096 ∧ 0 < (List.replicate n fr0).length ∧ 0 ≤ 4096 ∧ 0 ≤ 4096
    rw [List.length_replicate]
    exact ⟨h1, hn, by omega, by omega, by omega⟩
theorem ponew_any (h : DI w B o d S c) (n : Nat) (h1 : 1 ≤ n) (hn : n ≤ 4096) :
    Calls Tryz.prog 11 #[.pointer (some ⟨d, 0, none⟩), .int .i64 n] w fun e w' => ∃ p g mb, e = .returned (.tuple #[.pointer (some ⟨p, 0, none⟩), .int .i64 0]) ∧ PoR w' B o d p g mb (pl0 n) 0 ∧ w.grownBy w' none :=
  (ponew_lo h n h1 hn).mono fun _ _ ⟨p, g, mb, e, k1, k2, _⟩ => ⟨p, g, mb, e, k1, k2⟩
set_option maxHeartbeats 2000000 in
theorem take_free (h : PoR w B o d p g mb P nm) {i : Nat} (hi : i < P.fr.length) (h0 : P.fr[i].full = false) (hb : ∀ j (hj : j < P.fr.length), j < i → P.fr[j].full = true) :
    Calls Tryz.prog 99 #[.pointer (some ⟨p, 0, none⟩)] w fun e w' => e = .returned (.tuple #[.int .i64 i, .int .i64 0]) ∧ w.grownBy w' none := by
  obtain ⟨s0, s1, -⟩ := h.selfc
  have HF := Lib.hid h.fr
  have HB := Lib.hid h.bytes
  have hl := h.lim.2.1
  have HA := Lib.hid hb
  have H0 := Lib.hid h0
  clear h hb h0
  obtain ⟨fr, wh, hand, mf, mp⟩ := P
  dsimp only at s1 hl hi HF HB HA H0
  go_enter Tryz.func99, Tryz.ntmps99
  go_wp2
  go_step3
  go_wp2
  go_loopw [4, 5, 15] (fun _ _ k wr => ∃ j : Nat, j ≤ i ∧ k = .int .i64 j ∧ w.grownBy wr none) (fun _ _ k _ => fr.length - (intOf k).toNat)
  case atStart => exact ⟨0, by omega, rfl, gr_refl _ _⟩
  case round =>
    obtain ⟨j, hj, rfl, hg⟩ := hrel
    have HG := Lib.hid hg
    have hlt : j < fr.length := by omega
    have hb := HB.out _ (List.getElem_mem hlt)
    obtain ⟨x, hx⟩ : ∃ x, x = fr[j] := ⟨_, rfl⟩
    rw [← hx] at hb
    obtain ⟨c0, c1, c2, c3, c4, c5, c6⟩ := frame_cells (HF.out.ext hg) hlt hx.symm
    obtain ⟨Ab, cb, hbv⟩ := hb.rd.form
    rw [hbv] at c3
    have hfull : x.full = decide (j < i) := by
      by_cases hji : j < i
      · rw [hx, HA.out j hlt hji]; simp [hji]
      · obtain rfl : j = i := by omega
        rw [hx, H0.out]; simp
    obtain ⟨xf, xn, xk, xb, xv, xp, xd, xu⟩ := x
    simp only [] at hfull c0 c1 c2 c3 c4 c5 c6
    subst hfull
    clear hx hb hbv hg
    by_cases hji : j < i
    · have hd : decide (j < i) = true := by simpa using hji
      rw [hd] at c0
      clear hd
      go_wp2
      go_roundw
      case rel => exact ⟨j + 1, by omega, by go_num, gr_none HG.out (gr_alloc _ _ _)⟩
      case measure => simp [intOf] <;> omega
    · obtain rfl : j = i := by omega
      have hd : decide (j < j) = false := by simp
      rw [hd] at c0
      clear hd
      go_wp2
      try rw [Exit.noGoto_ret]
      go_ret2
      exact ⟨rfl, gr_none HG.out (gr_alloc _ _ _)⟩
end
end Go.Proofs.YtkpmadahfmpeiaaGreat

/- pool: a page that is new is written; a page that is held is read. -/
namespace Go.Proofs.YtkpmadahfmpeiaaGreat
open Go.RowKit Go.Maps
set_option maxRecDepth 100000
set_option maxHeartbeats 400000

section
variable {w w' : World} {B d p g mb nm : Nat} {o : Own1} {P : Pl} {S : Dk} {c : Con}
def Pl.put (P : Pl) (i : Nat) (x : Fr) : Pl := { P with fr := P.fr.set i x }
/-- a frame that holds the same page is written. -/
theorem PoR.put (h : PoR w B o d p g mb P nm) (hg : w.grownBy w' (some g)) {i : Nat} (hi : i < P.fr.length) {x : Fr} (hb : Blk w' g 134 ((P.fr.set i x).flatMap Fr.enc).toArray) (e1 : x.full = P.fr[i].full) (e2 : x.n = P.fr[i].n) (e3 : x.k = P.fr[i].k) (hx : FrB w' B o p g mb x) :
    PoR w' B o d p g mb (P.put i x) nm := by
  refine ⟨?_, hb, h.wh.gr hg (fun e => h.apart.2.2 (Option.some.inj e)), fun z j => ?_, fun y hy => ?_, h.off, h.low, h.apart, ?_⟩
  · show Blk w' p _ #[_, .slice (some ⟨g, 0, none⟩) (P.fr.set i x).length (P.fr.set i x).length, _, _, _, _]
    rw [List.length_set]
    exact h.self.gr hg (fun e => h.apart.1 (Option.some.inj e).symm)
  · show P.wh z = some j ↔ ∃ h : j < (P.fr.set i x).length, ((P.fr.set i x)[j]).full = true ∧ ((P.fr.set i x)[j]).n = z.n ∧ ((P.fr.set i x)[j]).k = z.k
    rw [h.whi z j]
    have hj : ∀ (h1 : j < P.fr.length) (h2 : j < (P.fr.set i x).length), ((P.fr.set i x)[j]).full = (P.fr[j]).full ∧ ((P.fr.set i x)[j]).n = (P.fr[j]).n ∧ ((P.fr.set i x)[j]).k = (P.fr[j]).k := fun h1 h2 => by
      by_cases e : i = j
      · subst e
        rw [List.getElem_set_self]
        exact ⟨e1, e2, e3⟩
      · rw [List.getElem_set_ne e]
        exact ⟨rfl, rfl, rfl⟩
    constructor
    · rintro ⟨h1, h2⟩
      have h3 : j < (P.fr.set i x).length := by simpa using h1
      obtain ⟨k1, k2, k3⟩ := hj h1 h3
      exact ⟨h3, by rw [k1, k2, k3]; exact h2⟩
    · rintro ⟨h3, h2⟩
      have h1 : j < P.fr.length := by simpa using h3
      obtain ⟨k1, k2, k3⟩ := hj h1 h3
      exact ⟨h1, by rw [← k1, ← k2, ← k3]; exact h2⟩
  · rcases List.mem_or_eq_of_mem_set hy with hy | hy
    · exact (h.bytes y hy).far hg fun q e => ((h.bytes y hy).off q e).2.2.1
    · subst hy; exact hx
  · show 1 ≤ (P.fr.set i x).length ∧ (P.fr.set i x).length ≤ 4096 ∧ P.hand < (P.fr.set i x).length ∧ _
    rw [List.length_set]
    exact h.lim
theorem look_none (h : PoR w B o d p g mb P nm) {n : List UInt8} {k : Int} (hk : okK n k) (hn : P.wh ⟨n, k, hk⟩ = none) :
    (Instr.lookup 111 (.map (some mb)) (.agg #[.string ⟨n.toArray⟩, .int .i64 k]) true).run Tryz.prog w = .ok (.tuple #[.int .i64 0, .bool false]) w := by
  have := h.wh.look2 Tryz.underlying111 (z := .int .i64 0) (by kernel_rfl) (⟨n, k, hk⟩ : PK)
  rw [hn] at this
  exact this
theorem look_some (h : PoR w B o d p g mb P nm) {n : List UInt8} {k : Int} (hk : okK n k) {i : Nat} (hn : P.wh ⟨n, k, hk⟩ = some i) :
    (Instr.lookup 111 (.map (some mb)) (.agg #[.string ⟨n.toArray⟩, .int .i64 k]) true).run Tryz.prog w = .ok (.tuple #[.int .i64 i, .bool true]) w := by
  have := h.wh.look2 Tryz.underlying111 (z := .int .i64 0) (by kernel_rfl) (⟨n, k, hk⟩ : PK)
  rw [hn] at this
  exact this
theorem filled_len (P : Pl) (i : Nat) (f : Fr) (h : okK f.n f.k) : (P.filled i f h).noted.fr.length = P.fr.length := by show (P.fr.set i _).length = _; rw [List.length_set]
theorem filled_get (P : Pl) (i : Nat) (f : Fr) (h : okK f.n f.k) (hi : i < (P.filled i f h).noted.fr.length) : (P.filled i f h).noted.fr[i] = { f with full := true } := List.getElem_set_self (l := P.fr) (by rw [filled_len] at hi; simpa using hi)
def frW (n : List UInt8) (k : Int) (b : List UInt8) (v : Value) : Fr := ⟨true, n, k, b, v, 0, true, true⟩
abbrev frN (n : List UInt8) (k : Int) : Fr := ⟨false, n, k, [], .slice none 0 0, 0, false, false⟩
set_option maxHeartbeats 4000000 in
theorem powrite_new (h : DI w B o d S c) (hp : PoR w B o d p g mb P nm) {n : List UInt8} (hn : n.length ≤ 1000000000) {k : Int} (hk : okK n k) {bv : Value} {b : List UInt8} (hb : RdB w bv b) (hbo : ∀ q, blk bv = some q → q < w.heap.size ∧ po noO p g mb q = none) (hbl : b.length ≤ 240)
    (hpg : (S.pgs n).2 = 0) (h0 : 0 ≤ k) (h1 : k ≤ pagesN P.fr n (S.pgs n).1) (hwn : P.wh ⟨n, k, hk⟩ = none) {i : Nat} (hi : i < P.fr.length) (hf : P.fr[i].full = false) (hfb : ∀ j (hj : j < P.fr.length), j < i → P.fr[j].full = true) (hnm : nm < 1000000000) (hkb : k ≤ 1000000000) :
    Calls Tryz.prog 46 #[.pointer (some ⟨p, 0, none⟩), .string ⟨n.toArray⟩, .int .i64 k, bv] w fun e w' => e = .returned (.int .i64 0) ∧
      ∃ v, PoR w' B o d p g mb (((P.filled i (frN n k) hk).noted).put i (frW n k b v)) (nm + 1) ∧ Ch (po noO p g mb) w (po noO p g mb) w' := by
  obtain ⟨Ab, cb, rfl⟩ := hb.form
  have HPG := Lib.hid (ppages_any h hp hn)
  have H := Lib.hid h
  have HP := Lib.hid hp
  have HB := Lib.hid hb
  have HWN := Lib.hid hwn
  have HFB := Lib.hid hfb
  have HFF := Lib.hid hf
  have HI := Lib.hid hi
  have HE := Lib.hid hpg
  have d1 : decide ((240 : Int) < (b.length : Int)) = false := by simp; omega
  have d2 : decide (k < 0) = false := by simp; omega
  have d3 : decide (pagesN P.fr n (S.pgs n).1 < k) = false := by simp; omega
  obtain ⟨m, hm⟩ : ∃ m, m = pagesN P.fr n (S.pgs n).1 := ⟨_, rfl⟩
  rw [← hm] at HPG d3
  have HBO := Lib.hid hbo
  obtain ⟨P3, hP3⟩ : ∃ P3, P3 = (P.filled i (frN n k) hk).noted := ⟨_, rfl⟩
  have hi3 : i < P3.fr.length := by subst hP3; exact Nat.lt_of_lt_of_eq hi (filled_len P i (frN n k) hk).symm
  have HX3 : Hid (P3.fr[i] = { frN n k with full := true }) := by subst hP3; exact filled_get _ _ _ _ _
  rw [← hP3]
  have HP3E := Lib.hid hP3
  clear hP3 h hp hb hwn hf hfb hpg hm h1 hbo
  go_enter Tryz.func46, Tryz.ntmps46
  go_wp2_with fail
  refine HPG.out.mono ?_
  rintro e w1 ⟨g1, ⟨he, rfl⟩ | ⟨-, rfl⟩⟩
  · exact absurd HE.out he
  have HP1 := Lib.hid (HP.out.ext g1)
  have hlk := look_none HP1.out hk HWN.out
  obtain ⟨s0, s1, s2, -⟩ := HP1.out.selfc
  have HT := Lib.hid (take_free HP1.out HI.out HFF.out HFB.out)
  have G1 := Lib.hid g1
  clear g1 HPG
  go_wp2_with fail
  refine HT.out.mono ?_
  rintro e w2 ⟨rfl, g2⟩
  have HP2 := Lib.hid (HP1.out.ext g2)
  have hfn : FrB w2 B o p g mb (frN n k) := ⟨Rd.nil _ _, (fun q e => by cases e), ⟨Nat.zero_le _, hn, Nat.zero_le _, by show (-4611686018427387904 : Int) ≤ k ∧ k ≤ 4611686018427387904; omega⟩⟩
  have hfill := fill_any HP2.out HI.out HFF.out (f := frN n k) hfn hk HWN.out hnm
  rw [← HP3E.out] at hfill
  have HFI := Lib.hid hfill
  have G2 := Lib.hid (gr_none G1.out g2)
  clear g2 HT hfn hfill hlk s0 s1 s2 HP1
  go_wp2_with fail
  refine HFI.out.mono ?_
  rintro e w3 ⟨rfl, h3, ch3⟩
  have HP3 := Lib.hid h3
  have hnw : ∀ q, w.heap.size ≤ q → o q = none := fun q hq => by
    cases e : o q with
    | none => rfl
    | some t => exact absurd (H.out.inb q (by rw [e]; simp)).2 (by omega)
  have C3 : Hid (Ch (po noO p g mb) w (po noO p g mb) w3) := (Ch.ext G2.out).trans ch3
  have hrd3 : RdB w3 (.slice Ab b.length cb) b := C3.out.rd HB.out HBO.out
  have HCL := Lib.hid (cloneB _ b w3 hrd3 (by omega))
  obtain ⟨s0, s1, s2, -⟩ := h3.selfc
  have hl3 := h3.lim.2.1
  clear h3 ch3 HFI hrd3
  go_wp2_with fail
  refine HCL.out.mono ?_
  rintro e w4 ⟨v4, rfl, o4, g4⟩
  obtain ⟨A4, c4, rfl⟩ := RdB.form (Own.rd o4)
  have HP4 := Lib.hid (HP3.out.ext g4)
  have hfz := HP4.out.fr.frozen
  obtain ⟨c0, c1, c2, c3, c4', c5, c6⟩ := frame_cells HP4.out.fr hi3 HX3.out
  have G4 := Lib.hid g4
  have O4 := Lib.hid o4
  clear g4 o4 HCL s0 s1 s2
  go_wp2
  go_ret
  have hg5 : w4.grownBy (((w4.setCell ⟨g, i * 7 + 3, none⟩ (.slice A4 b.length c4)).setCell ⟨g, i * 7 + 5, none⟩ (.bool true)).setCell ⟨g, i * 7 + 6, none⟩ (.bool true)) (some g) :=
    gr_trans (gr_trans (gr_setCell w4 ⟨g, i * 7 + 3, none⟩ _) (gr_setCell _ ⟨g, i * 7 + 5, none⟩ _) (.inl rfl)) (gr_setCell _ ⟨g, i * 7 + 6, none⟩ _) (.inl rfl)
  have b1 := Blk.setFr HP4.out.fr hi3 (j := 3) (by omega) (x' := { frN n k with full := true, b := b, bv := .slice A4 b.length c4 }) (v := .slice A4 b.length c4) (by rw [HX3.out]; rfl)
  have b2 := Blk.setFr b1 (i := i) (by simpa using hi3) (j := 5) (by omega) (x' := { frN n k with full := true, b := b, bv := .slice A4 b.length c4, dirty := true }) (v := .bool true) (by rw [List.getElem_set_self]; rfl)
  have b3 := Blk.setFr b2 (i := i) (by simpa using hi3) (j := 6) (by omega) (x' := frW n k b (.slice A4 b.length c4)) (v := .bool true) (by rw [List.getElem_set_self]; rfl)
  simp only [List.set_set] at b3
  have hz3 := C3.out.size
  have hpl := HP.out.self.lt
  have hgl := HP.out.fr.lt
  have hml := HP.out.wh.lt
  have hB := H.out.base
  have hx4 : FrB w4 B o p g mb (frW n k b (.slice A4 b.length c4)) := ⟨Own.rd O4.out, fun q e => by
    obtain ⟨q1, q2⟩ := Own.blk_lt O4.out (by omega) e
    exact ⟨hnw q (by omega), by omega, by omega, by omega, q2, by omega⟩, ⟨hbl, hn, by simp [frW], by simp only [frW]; omega⟩⟩
  exact ⟨rfl, _, HP4.out.put hg5 hi3 b3 (by rw [HX3.out]; rfl) (by rw [HX3.out]; rfl) (by rw [HX3.out]; rfl) (hx4.far hg5 fun q e => (hx4.off q e).2.2.1), (C3.out.trans (Ch.ext G4.out)).trans (Ch.of_gr hg5 fun k e => by cases e; exact (po_ne noO p g mb).2.1)⟩
set_option maxHeartbeats 4000000 in
/-- a page that is held is read. -/
theorem poread_hit (h : DI w B o d S c) (hp : PoR w B o d p g mb P nm) {n : List UInt8} (hn : n.length ≤ 1000000000) {k : Int} (hk : okK n k) (hpg : (S.pgs n).2 = 0) (h0 : 0 ≤ k) (h1 : k < pagesN P.fr n (S.pgs n).1) {i : Nat} (hi : i < P.fr.length) (hwn : P.wh ⟨n, k, hk⟩ = some i) :
    Calls Tryz.prog 21 #[.pointer (some ⟨p, 0, none⟩), .string ⟨n.toArray⟩, .int .i64 k] w fun e w' => ∃ v, e = .returned (.tuple #[v, .int .i64 0]) ∧ OwnB w' w.heap.size v (P.fr[i]).b ∧
      PoR w' B o d p g mb (P.put i { P.fr[i] with used := true }) nm ∧ Ch (po noO p g mb) w (po noO p g mb) w' := by
  have HPG := Lib.hid (ppages_any h hp hn)
  have H := Lib.hid h
  have HP := Lib.hid hp
  have HWN := Lib.hid hwn
  have HE := Lib.hid hpg
  have d2 : decide (k < 0) = false := by simp; omega
  have d3 : decide (pagesN P.fr n (S.pgs n).1 ≤ k) = false := by simp; omega
  obtain ⟨m, hm⟩ : ∃ m, m = pagesN P.fr n (S.pgs n).1 := ⟨_, rfl⟩
  rw [← hm] at HPG d3
  obtain ⟨x, hx⟩ : ∃ x, x = P.fr[i] := ⟨_, rfl⟩
  rw [← hx]
  have HX := Lib.hid hx
  have hl3 := hp.lim.2.1
  have HBr : Hid (Calls Tryz.prog 60 #[.pointer (some ⟨p, 0, none⟩), .string ⟨n.toArray⟩, .int .i64 k] w fun e w' => e = .returned (.tuple #[.int .i64 i, .int .i64 0]) ∧ PoR w' B o d p g mb (P.put i { x with used := true }) nm ∧ Ch (po noO p g mb) w (po noO p g mb) w') := by
    show Calls _ _ _ _ _
    clear h hp hwn hpg hm h1 hx
    go_enter Tryz.func60, Tryz.ntmps60
    go_wp2_with fail
    refine HPG.out.mono ?_
    rintro e w1 ⟨g1, ⟨he, rfl⟩ | ⟨-, rfl⟩⟩
    · exact absurd HE.out he
    have HP1 := Lib.hid (HP.out.ext g1)
    have hlk := look_some HP1.out hk HWN.out
    obtain ⟨s0, s1, s2, -⟩ := HP1.out.selfc
    have hfz := HP1.out.fr.frozen
    obtain ⟨c0, c1, c2, c3, c4, c5, c6⟩ := frame_cells HP1.out.fr hi HX.out.symm
    have G1 := Lib.hid g1
    clear g1 HPG
    go_wp2
    go_ret2
    have hg5 : w1.grownBy (w1.setCell ⟨g, i * 7 + 6, none⟩ (.bool true)) (some g) := gr_setCell w1 ⟨g, i * 7 + 6, none⟩ _
    have b3 := Blk.setFr HP1.out.fr hi (j := 6) (by omega) (x' := { x with used := true }) (v := .bool true) (by rw [← HX.out]; rfl)
    have hbx := HP1.out.bytes x (by rw [HX.out]; exact List.getElem_mem hi)
    have hx5 : FrB w1 B o p g mb { x with used := true } := ⟨hbx.rd, hbx.off, hbx.len⟩
    exact ⟨rfl, HP1.out.put hg5 hi b3 (by rw [← HX.out]) (by rw [← HX.out]) (by rw [← HX.out]) (hx5.far hg5 fun q e => (hx5.off q e).2.2.1), (Ch.ext G1.out).trans (Ch.of_gr hg5 fun k e => by cases e; exact (po_ne noO p g mb).2.1)⟩
  clear h hp hwn hpg hm h1 hx HPG d3 HWN
  go_enter Tryz.func21, Tryz.ntmps21
  go_wp2_with fail
  refine HBr.out.mono ?_
  rintro e w1 ⟨rfl, h1, ch1⟩
  obtain ⟨s0, s1, s2, -⟩ := h1.selfc
  have hlen : (P.put i { x with used := true }).fr.length = P.fr.length := by show (P.fr.set i _).length = _; rw [List.length_set]
  rw [hlen] at s1
  have hget : (P.put i { x with used := true }).fr[i]'(by rw [hlen]; exact hi) = { x with used := true } := List.getElem_set_self (l := P.fr) (by simpa using hi)
  obtain ⟨c0, c1, c2, c3, c4, c5, c6⟩ := frame_cells h1.fr (by rw [hlen]; exact hi) hget
  have hmem := List.getElem_mem (l := (P.put i { x with used := true }).fr) (n := i) (by rw [hlen]; exact hi)
  rw [hget] at hmem
  have hbx := h1.bytes _ hmem
  have hrd : RdB w1 x.bv x.b := hbx.rd
  have hbl : x.b.length ≤ 240 := hbx.len.1
  obtain ⟨Ab, cb, hbv⟩ := hrd.form
  have c3' : w1.cell? ⟨g, i * 7 + 3, none⟩ = some x.bv := c3
  rw [hbv] at c3' hrd
  have HCL := Lib.hid (cloneB _ x.b w1 hrd (by omega))
  have H1 := Lib.hid h1
  have CH1 := Lib.hid ch1
  clear h1 ch1 hlen hget hmem c0 c1 c2 c3 c4 c5 c6 hbx hrd hbv HBr
  go_wp2_with fail
  refine HCL.out.mono ?_
  rintro e w2 ⟨v2, rfl, o2, g2⟩
  have O2 := Lib.hid o2
  have G2 := Lib.hid g2
  clear o2 g2 HCL
  go_wp2
  go_ret2
  exact ⟨_, rfl, Own.mono O2.out CH1.out.size, H1.out.ext G2.out, CH1.out.trans (Ch.ext G2.out)⟩
end
end Go.Proofs.YtkpmadahfmpeiaaGreat
