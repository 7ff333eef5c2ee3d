/-
  JournalNil, the walk: no disk, no journal.
-/
import Derived.Test.YtipankjajdpiiaaGreatJ6
import Derived.Test.YtipankjajdpiiaaGreatJ4
namespace Go.Proofs.YtipankjajdpiiaaGreat
open Go.RowKit
set_option maxRecDepth 100000
set_option maxHeartbeats 400000

theorem size_nil (w : World) (n : List UInt8) : Calls Tryz.prog 64 #[.pointer none, .string ⟨n.toArray⟩] w fun e w' => e = .returned (.tuple #[.int .i64 0, .int .i64 2]) ∧ w = w' := by
  go_enter Tryz.func64, Tryz.ntmps64
  go_wp2_with fail
  refine (look_nil _).mono ?_
  rintro e w1 ⟨rfl, rfl⟩
  go_wp2
  go_ret2
  exact ⟨rfl, rfl⟩
theorem open_nil (w : World) : Calls Tryz.prog 22 #[.pointer none] w fun e w' => e = .returned (.tuple #[.pointer none, .int .i64 2]) ∧ w = w' := by
  go_enter Tryz.func22, Tryz.ntmps22
  go_wp2_with fail
  refine (size_nil _ jn).mono ?_
  rintro e w1 ⟨rfl, rfl⟩
  go_wp2
  go_ret2
  exact ⟨rfl, rfl⟩
theorem add_nil (k a b : UInt32) (w : World) : Calls Tryz.prog 23 #[.pointer none, .agg #[.int .u32 k.toNat, .int .u32 a.toNat, .int .u32 b.toNat]] w fun e w' => e = .returned (.int .i64 2) ∧ w.grownBy w' none := by
  go_enter Tryz.func23, Tryz.ntmps23
  go_wp2
  go_ret
  exact ⟨rfl, gr_alloc _ _ _⟩
theorem back_nil (n : Int) (w : World) : Calls Tryz.prog 24 #[.pointer none, .int .i64 n] w fun e w' => e = .returned (.int .i64 2) ∧ w = w' := by
  go_enter Tryz.func24, Tryz.ntmps24
  go_wp2
  go_ret
  exact ⟨rfl, rfl⟩
end Go.Proofs.YtipankjajdpiiaaGreat

/- disk's Flip at any mask, whatever it is asked. -/
namespace Go.Proofs.YtipankjajdpiiaaGreat
open Go.RowKit
set_option maxRecDepth 100000
set_option maxHeartbeats 400000

def Dk.flipA (S : Dk) (n : List UInt8) (k : Int) (m : UInt8) : Dk × Nat := if S.dead then (S, 6) else if rightB n = false ∨ m = 0 ∨ k < 0 then (S, 1) else match S.find n with | none => (S, 3) | some f => if (f.now.length : Int) ≤ k then (S, 1) else (S.flip n k.toNat m, 0)
theorem flipA_any {w : World} {B d : Nat} {o : Own1} {S : Dk} {c : Con} (h : DI w B o d S c) (n : List UInt8) (hn : n.length ≤ 1000000000) {k : Int} (m : UInt8) (hk : -9223372036854775808 ≤ k ∧ k ≤ 9223372036854775807) :
    Calls Tryz.prog 29 #[.pointer (some ⟨d, 0, none⟩), .string ⟨n.toArray⟩, .int .i64 k, .int .u8 m.toNat] w fun e w' => e = .returned (.int .i64 (S.flipA n k m).2) ∧ DOut o w B d (S.flipA n k m).1 w' := by
  have hlk := look_any h
  cases hd : S.dead with
  | true =>
    rw [hd] at hlk
    have HK := Lib.hid hlk
    have H := Lib.hid h
    rw [show S.flipA n k m = (S, 6) from if_pos hd]
    clear hlk h hd
    go_enter Tryz.func29, Tryz.ntmps29
    go_wp2_with fail
    refine HK.out.mono ?_
    rintro e w1 ⟨rfl, rfl⟩
    go_wp2_with fail
    go_ret
    exact ⟨rfl, o, c, H.out, Ch.refl _ _⟩
  | false =>
    rw [hd] at hlk
    have HK := Lib.hid hlk
    have H := Lib.hid h
    by_cases hbad : rightB n = false ∨ m = 0 ∨ k < 0
    · have HF : Hid (∀ fine : Bool, (rightB n = false ∨ fine = false) → Calls Tryz.prog 74 #[.pointer (some ⟨d, 0, none⟩), .string ⟨n.toArray⟩, .bool fine] w fun e w' => e = .returned (.tuple #[.pointer none, .int .i64 1]) ∧ w.grownBy w' none) := fun fine hb => find_bad d n fine w hn hb
      rw [show S.flipA n k m = (S, 1) from by unfold Dk.flipA; rw [if_neg (by rw [hd]; simp), if_pos hbad]]
      by_cases hm : m = 0
      · subst hm
        have HF2 := Lib.hid (HF.out false (.inr rfl))
        rw [show (((0 : UInt8).toNat : Nat) : Int) = 0 from rfl]
        clear hlk h hd hbad HF
        go_enter Tryz.func29, Tryz.ntmps29
        go_wp2_with fail
        refine HK.out.mono ?_
        rintro e w1 ⟨rfl, rfl⟩
        go_wp2_with fail
        refine HF2.out.mono ?_
        rintro e w2 ⟨rfl, g2⟩
        have G2 := Lib.hid g2
        clear g2 HF2
        go_wp2_with fail
        go_ret
        exact ⟨rfl, o, c, H.out.ext G2.out, Ch.ext G2.out⟩
      · have hm0 : ((m.toNat : Int) != 0) = true := by
          rw [bne_iff_ne]
          intro e
          exact hm (UInt8.toNat_inj.1 (by simpa using e))
        by_cases hk0 : k < 0
        · have hk1 : ¬ 0 ≤ k := by omega
          have hdk : decide (0 ≤ k) = false := decide_eq_false hk1
          have HF2 := Lib.hid (HF.out false (.inr rfl))
          clear hlk h hd hbad HF hm
          go_enter Tryz.func29, Tryz.ntmps29
          go_wp2_with fail
          refine HK.out.mono ?_
          rintro e w1 ⟨rfl, rfl⟩
          go_wp2_with fail
          refine HF2.out.mono ?_
          rintro e w2 ⟨rfl, g2⟩
          have G2 := Lib.hid g2
          clear g2 HF2
          go_wp2_with fail
          go_ret
          exact ⟨rfl, o, c, H.out.ext G2.out, Ch.ext G2.out⟩
        · have hk1 : 0 ≤ k := by omega
          have hdk : decide (0 ≤ k) = true := decide_eq_true hk1
          have HF2 := Lib.hid (HF.out true (by
            rcases hbad with h9 | h9 | h9
            · exact .inl h9
            · exact absurd h9 hm
            · exact absurd h9 hk0))
          clear hlk h hd hbad HF hm
          go_enter Tryz.func29, Tryz.ntmps29
          go_wp2_with fail
          refine HK.out.mono ?_
          rintro e w1 ⟨rfl, rfl⟩
          go_wp2_with fail
          refine HF2.out.mono ?_
          rintro e w2 ⟨rfl, g2⟩
          have G2 := Lib.hid g2
          clear g2 HF2
          go_wp2_with fail
          go_ret
          exact ⟨rfl, o, c, H.out.ext G2.out, Ch.ext G2.out⟩
    · have hr : rightB n = true := by
        cases e : rightB n with
        | true => rfl
        | false => exact absurd (.inl e) hbad
      have hm : m ≠ 0 := fun e => hbad (.inr (.inl e))
      have hk1 : 0 ≤ k := by
        rcases Int.lt_or_le k 0 with h9 | h9
        · exact absurd (.inr (.inr h9)) hbad
        · exact h9
      have hm0 : ((m.toNat : Int) != 0) = true := by
        rw [bne_iff_ne]
        intro e
        exact hm (UInt8.toNat_inj.1 (by simpa using e))
      cases hf : S.find n with
      | none =>
        have HF := Lib.hid (find_no h hn hr hf)
        rw [show S.flipA n k m = (S, 3) from by unfold Dk.flipA; rw [if_neg (by rw [hd]; simp), if_neg hbad, hf]]
        clear hlk h hd hbad hf
        go_enter Tryz.func29, Tryz.ntmps29
        go_wp2_with fail
        refine HK.out.mono ?_
        rintro e w1 ⟨rfl, rfl⟩
        go_wp2_with fail
        refine HF.out.mono ?_
        rintro e w2 ⟨rfl, g2⟩
        have G2 := Lib.hid g2
        clear g2 HF
        go_wp2_with fail
        go_ret
        exact ⟨rfl, o, c, H.out.ext G2.out, Ch.ext G2.out⟩
      | some f =>
        obtain ⟨p, rfl⟩ : ∃ p : Nat, k = (p : Int) := ⟨k.toNat, by omega⟩
        by_cases hp : p < f.now.length
        · rw [show S.flipA n (p : Int) m = (S.flip n p m, 0) from by unfold Dk.flipA; rw [if_neg (by rw [hd]; simp), if_neg hbad, hf]; exact if_neg (by omega)]
          exact flip_alive h hd n hn hr hf p hp m hm
        · rw [show S.flipA n (p : Int) m = (S, 1) from by unfold Dk.flipA; rw [if_neg (by rw [hd]; simp), if_neg hbad, hf]; exact if_pos (by omega)]
          have HFO := Lib.hid (find_ok h hn hr hf)
          obtain ⟨hmem, rfl⟩ := find_some hf
          have HM := Lib.hid hmem
          clear hlk h hd hbad hf hmem
          go_enter Tryz.func29, Tryz.ntmps29
          go_wp2_with fail
          refine HK.out.mono ?_
          rintro e w1 ⟨rfl, rfl⟩
          go_wp2_with fail
          refine HFO.out.mono ?_
          rintro e w2 ⟨rfl, g2⟩
          have h2 := H.out.ext g2
          have hfc : w2.cell? ⟨c.fb f.name, 0, none⟩ = some (c.nv f.name) := (h2.file f HM.out).box.cell 0
          obtain ⟨A, cp, e1⟩ := (h2.file f HM.out).now.rd.form
          rw [e1] at hfc
          have hpi : (f.now.length : Int) ≤ (p : Int) := by omega
          have G2 := Lib.hid g2
          clear g2 HFO h2
          go_wp2_with fail
          go_ret
          exact ⟨rfl, o, c, H.out.ext G2.out, Ch.ext G2.out⟩
end Go.Proofs.YtipankjajdpiiaaGreat

/- The filled journal: a record without a kind, and the loop that adds records. -/
namespace Go.Proofs.YtipankjajdpiiaaGreat
open Go.RowKit
set_option maxRecDepth 100000
set_option maxHeartbeats 400000

/-- a disk with a journal's file alone, all of it whole. -/
def Full (S : Dk) (l : List Rc) : Prop := Idle S ∧ S.quota = 1024 ∧ S.nl ≤ 64 * l.length ∧ ∃ la, S.fs = [⟨jn, secs 0 l, la⟩]
theorem Full.find {S : Dk} {l : List Rc} (h : Full S l) : ∃ la, S.find jn = some ⟨jn, secs 0 l, la⟩ := by
  obtain ⟨_, _, _, la, e⟩ := h
  exact ⟨la, by unfold Dk.find; rw [e]; simp⟩
theorem Full.open_ : Full (jOpen (newD 1024)) [] := by
  have e1 : jOpen1 (newD 1024) = { newD 1024 with fs := (newD 1024).fs ++ [⟨jn, [], []⟩] } := by unfold jOpen1; rw [newD_find]
  have e2 : jOpen (newD 1024) = ({ newD 1024 with fs := (newD 1024).fs ++ [⟨jn, [], []⟩] } : Dk).synced jn := by
    unfold jOpen
    rw [e1, find_added (newD 1024) jn (newD_find 1024)]
    rfl
  rw [e2]
  exact ⟨⟨rfl, rfl⟩, rfl, by simp [newD, Dk.synced], [], by simp [newD, Dk.synced, setF, secs]⟩
theorem Full.add {S : Dk} {l : List Rc} (h : Full S l) (r : Rc) : Full (addD S l.length r) (l ++ [r]) := by
  obtain ⟨hi, hq, hn, la, e⟩ := h
  have e1 : overZ (secs 0 l) (64 * l.length) (secB (l.length + 1) r) = secs 0 (l ++ [r]) := by
    unfold overZ
    rw [secs_snoc, List.take_of_length_le (by rw [secs_len]; omega), List.drop_of_length_le (by rw [secs_len]; omega), List.append_nil, Nat.zero_add]
  refine ⟨⟨hi.1, hi.2⟩, hq, ?_, secs 0 (l ++ [r]), ?_⟩
  · show S.nl + (secB (l.length + 1) r).length ≤ _
    rw [secB_len, List.length_append, List.length_singleton]; omega
  · unfold addD Dk.synced Dk.wrote setF
    rw [e]
    simp [e1]
theorem Full.room {S : Dk} {l : List Rc} (h : Full S l) (r : Rc) (hl : l.length < 1000) {f : Fi} (hf : S.find jn = some f) :
    f.now.length = 64 * l.length ∧ ¬ (0 < moreS f (64 * l.length) (secB (l.length + 1) r) ∧ (S.quota : Int) < S.used + moreS f (64 * l.length) (secB (l.length + 1) r)) := by
  obtain ⟨la, e⟩ := h.find
  rw [e] at hf
  obtain rfl := Option.some.inj hf
  obtain ⟨hi, hq, hn, la', ef⟩ := h
  have eu : S.used = sectors (64 * l.length) := by unfold Dk.used; rw [ef]; simp [secs_len]
  refine ⟨secs_len 0 l, ?_⟩
  unfold moreS
  rw [eu, hq, secB_len]
  show ¬ (0 < (sectors (max (secs 0 l).length (64 * l.length + 64)) : Int) - sectors (secs 0 l).length ∧ _)
  rw [secs_len]
  unfold sectors
  omega
theorem add_arg (r : Rc) (h : r.k = 0) (jb : Nat) (w : World) : Calls Tryz.prog 23 #[.pointer (some ⟨jb, 0, none⟩), .agg r.cells] w fun e w' => e = .returned (.int .i64 1) ∧ w.grownBy w' none := by
  have hk : ((r.k.toNat : Int) == 0) = true := by rw [h]; rfl
  have hk2 : r.k.toNat = 0 := by rw [h]; rfl
  have hk3 : (r.k.toNat : Int) = 0 := by rw [h]; rfl
  unfold Rc.cells
  rw [hk2]
  clear hk hk2 hk3 h
  go_enter Tryz.func23, Tryz.ntmps23
  go_wp2
  go_ret
  exact ⟨rfl, gr_alloc _ _ _⟩
def FillOut (w : World) (l : List Rc) (e : Ending) (w' : World) : Prop := ∃ d,
  ((∀ r ∈ l, r.k ≠ 0) ∧ ∃ jb v o c S, e = .returned (.tuple #[.pointer (some ⟨d, 0, none⟩), .pointer (some ⟨jb, 0, none⟩), .bool true]) ∧ DI w' w.heap.size o d S c ∧ Full S l ∧ JR w' w.heap.size o jb d v l ∧ w.grownBy w' none) ∨
  (e = .returned (.tuple #[.pointer (some ⟨d, 0, none⟩), .pointer none, .bool true]) ∧ w.grownBy w' none)
def FilR (w : World) (d jb : Nat) (l : List Rc) (k : Nat) (wr : World) : Prop :=
  ∃ v o c S, DI wr w.heap.size o d S c ∧ Full S (l.take k) ∧ JR wr w.heap.size o jb d v (l.take k) ∧ w.grownBy wr none ∧ ∀ r ∈ l.take k, r.k ≠ 0
end Go.Proofs.YtipankjajdpiiaaGreat

/- JournalCut, the walk. -/
namespace Go.Proofs.YtipankjajdpiiaaGreat
open Go.RowKit
set_option maxRecDepth 100000
set_option maxHeartbeats 400000

theorem secs_append (n : Nat) (l m : List Rc) : secs n (l ++ m) = secs n l ++ secs (n + l.length) m := by
  induction l generalizing n with
  | nil => simp [secs]
  | cons a l ih => rw [List.cons_append, secs, ih, secs, List.append_assoc, List.length_cons]; congr 3; omega
theorem secs_take (l : List Rc) (k : Nat) (hk : k ≤ 64 * l.length) : ∃ T, (secs 0 l).take k = secs 0 (l.take (k / 64)) ++ T ∧ T.length < 64 := by
  have hq : k / 64 ≤ l.length := by omega
  have e : secs 0 l = secs 0 (l.take (k / 64)) ++ secs (l.take (k / 64)).length (l.drop (k / 64)) := by
    have := secs_append 0 (l.take (k / 64)) (l.drop (k / 64))
    rw [List.take_append_drop, Nat.zero_add] at this
    exact this
  refine ⟨(secs (l.take (k / 64)).length (l.drop (k / 64))).take (k - 64 * (k / 64)), ?_, ?_⟩
  · have hl : (secs 0 (l.take (k / 64))).length = 64 * (k / 64) := by rw [secs_len, List.length_take]; omega
    rw [e, List.take_append, List.take_of_length_le (by rw [hl]; omega), hl]
  · rw [List.length_take]; omega
theorem readJ_cut (l : List Rc) (k : Nat) (hk : k ≤ 64 * l.length) (hn : l.length ≤ 60) (h0 : ∀ r ∈ l, r.k ≠ 0) : readJ ((secs 0 l).take k) = l.take (k / 64) := by
  obtain ⟨T, e, hT⟩ := secs_take l k hk
  have hm : (l.take (k / 64)).length = k / 64 := by rw [List.length_take]; omega
  unfold readJ
  rw [e]
  refine readF_secs _ 0 _ T (fun r hr => h0 r (List.mem_of_mem_take hr)) (by omega) ?_ (readF_stop (.inl hT))
  rw [List.length_append, secs_len]; omega
theorem RdR.take {w : World} {A : Option Addr} {n c : Nat} {b : List Rc} (h : RdR w (.slice A n c) b) {k : Nat} (hk : k ≤ b.length) : RdR w (.slice A k c) (b.take k) := by
  obtain ⟨hl, A', c', g, off, e, hn, hc, hA0, hA, hx⟩ := h
  cases e
  have hl' : (b.take k).length = k := List.length_take_of_le hk
  have e2 : rcL b = rcL (b.take k) ++ rcL (b.drop k) := by rw [← rcL_append, List.take_append_drop]
  have h3 : (rcL (b.take k)).length = k * 3 := by rw [rcL_len, hl']
  unfold RdR
  rw [hl']
  refine ⟨h3, _, _, g, off, rfl, by omega, hc, hA0, fun h0 => hA (by omega), fun j hj => ?_⟩
  rw [hx j (by omega), e2, List.getElem?_append_left (by omega)]
theorem jOpen_cut {S : Dk} {l : List Rc} (h : Full S l) (k : Nat) (hk : k ≤ 64 * l.length) (hn : l.length ≤ 60) (h0 : ∀ r ∈ l, r.k ≠ 0) :
    jRecs (S.cutTo jn k) = l.take (k / 64) ∧ ∃ f, (jOpen (S.cutTo jn k)).find jn = some f ∧ f.now.length = 64 * (k / 64) := by
  obtain ⟨la, hf⟩ := h.find
  have e : (S.cutTo jn k).find jn = some ⟨jn, (secs 0 l).take k, la.take k⟩ := by rw [find_cutTo, hf]; simp
  have hr : jRecs (S.cutTo jn k) = l.take (k / 64) := by
    unfold jRecs
    rw [e]
    exact readJ_cut l k hk hn h0
  refine ⟨hr, ?_⟩
  obtain ⟨f, h1, h2⟩ := find_jOpen e
  refine ⟨f, h1, ?_⟩
  rw [h2]
  show (((secs 0 l).take k).take (64 * (readJ ((secs 0 l).take k)).length)).length = _
  rw [readJ_cut l k hk hn h0, List.length_take, List.length_take, List.length_take, secs_len]
  omega
end Go.Proofs.YtipankjajdpiiaaGreat
