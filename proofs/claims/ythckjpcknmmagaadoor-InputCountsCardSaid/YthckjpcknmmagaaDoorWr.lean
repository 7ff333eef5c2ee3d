/-
  input.Write and its reference: the bytes of edges.
-/
import Derived.Test.YthckjpcknmmagaaDoorChk3
import Derived.Lib.SlBytesConst
namespace Go.Proofs.YthckjpcknmmagaaDoor
open Go.RowKit
set_option maxRecDepth 100000
set_option maxHeartbeats 400000

def inputB (n : UInt32) (l : List Ed) : List UInt8 := magic ++ le n.toNat 4 ++ le l.length 4
def rowOk (n : UInt32) (e : Ed) : Bool := (rowM e.row n 0).2.isNone
def writeOk (n : UInt32) (l : List Ed) : Bool := decide (l.length ≤ 16777216) && (decide (n.toNat ≤ 2147483647) && (!(decide (n.toNat = 0) && decide (0 < l.length)) && l.all (rowOk n)))
def writeM (n : UInt32) (l : List Ed) : List UInt8 × Nat := if writeOk n l then (inputB n l ++ l.flatMap Ed.row, 0) else ([], 1)
def ResW (B : Nat) (r : List UInt8 × Nat) (e : Ending) (w' : World) : Prop := ∃ v, e = .returned (.tuple #[v, .int .i64 r.2]) ∧ OwnB w' B v r.1

theorem flatMap_len {α β : Type} (f : α → List β) {m : Nat} (h : ∀ e, (f e).length = m) : ∀ l : List α, (l.flatMap f).length = l.length * m
  | [] => by simp
  | e :: l => by rw [List.flatMap_cons, List.length_append, flatMap_len f h l, h, List.length_cons, Nat.add_mul]; omega
theorem all_take_succ {α : Type} {p : α → Bool} {l : List α} {k : Nat} (h : (l.take k).all p = true) (hk : k < l.length) (hp : p l[k] = true) : (l.take (k + 1)).all p = true := by
  rw [List.take_succ_eq_append_getElem hk, List.all_append, h]; simp [hp]
theorem all_false {α : Type} {p : α → Bool} {l : List α} {k : Nat} (hk : k < l.length) (hp : p l[k] = false) : l.all p = false := by
  rw [List.all_eq_false]; exact ⟨_, List.getElem_mem hk, by simp [hp]⟩
theorem flatMap_take_succ {α β : Type} {f : α → List β} {l : List α} {k : Nat} (hk : k < l.length) : (l.take (k + 1)).flatMap f = (l.take k).flatMap f ++ f l[k] := by
  rw [List.take_succ_eq_append_getElem hk, List.flatMap_append]; simp
theorem length_row (e : Ed) : e.row.length = 16 := by simp [Ed.row, length_le]
theorem RdE.at_ {w : World} {A : Option Addr} {c : Nat} {l : List Ed} (h : RdE w (.slice A l.length c) l) : ∃ g off, (0 < l.length → A = some ⟨g, off, none⟩) ∧ ∀ k (hk : k < l.length), ∀ j, j < 4 → w.cell? ⟨g, off + k * 4 + j, none⟩ = (l[k].cells)[j]? := by
  obtain ⟨_, _, _, g, off, e, hn, hc, _, hA, hx⟩ := h
  cases e
  refine ⟨g, off, fun h0 => hA (by omega), fun k hk j hj => ?_⟩
  rw [Nat.add_assoc, hx (k * 4 + j) (by omega), edL_at l k j hk hj]

/-- the four cells of an edge of a list. -/
theorem at4 {w wx : World} {g off : Nat} {l : List Ed} (hc : ∀ k (hk : k < l.length), ∀ j, j < 4 → w.cell? ⟨g, off + k * 4 + j, none⟩ = (l[k].cells)[j]?) (hg : w.grownBy wx none) {k : Nat} (hk : k < l.length) {t h m : UInt32} {x : UInt64} (e : l[k] = ⟨t, h, x, m⟩) :
    wx.cell? ⟨g, off + k * 4, none⟩ = some (.int .u32 t.toNat) ∧ wx.cell? ⟨g, off + k * 4 + 1, none⟩ = some (.int .u32 h.toNat) ∧ wx.cell? ⟨g, off + k * 4 + 2, none⟩ = some (.int .u64 x.toNat) ∧ wx.cell? ⟨g, off + k * 4 + 3, none⟩ = some (.int .u32 m.toNat) := by
  have h0 := hc k hk 0 (by omega)
  have h1 := hc k hk 1 (by omega)
  have h2 := hc k hk 2 (by omega)
  have h3 := hc k hk 3 (by omega)
  rw [e] at h0 h1 h2 h3
  exact ⟨hg.cell h0 (by simp), hg.cell h1 (by simp), hg.cell h2 (by simp), hg.cell h3 (by simp)⟩
theorem row0_any (v : Value) (b : List UInt8) (n : UInt32) (W : World) (h : RdB W v b) (hl : b.length ≤ 1000000000) :
    Calls Tryd.prog 24 #[v, .int .u32 n.toNat, .int .i64 0] W fun e w' => ResR (rowM b n 0) e ∧ W.grownBy w' none := row_any v b n 0 W h hl (by omega)
/-- an edge's first sixteen bytes. -/
theorem row_cut {w : World} {A : Option Addr} {c B : Nat} {e : Ed} (h : OwnB w B (.slice A e.bytes.length c) e.bytes) : RdB w (.slice A 16 c) e.row := by
  have h1 : e.bytes.length = 20 := by simp [Ed.bytes, length_row, length_le]
  have h2 := Own.take (k := 16) h (by omega)
  have h3 : (e.bytes.map u8v).take 16 = e.row.map u8v := by
    rw [← List.map_take, Ed.bytes, List.take_append_of_le_length (by simp [length_row]), List.take_of_length_le (by simp [length_row])]
  rw [h3] at h2
  unfold RdB
  rw [length_row]
  exact h2.rd
theorem length_bytes (e : Ed) : e.bytes.length = 20 := by simp [Ed.bytes, length_row, length_le]

theorem length_inputB (n : UInt32) (l : List Ed) : (inputB n l).length = 12 := by simp [inputB, length_le, magic]
theorem inputB_mis (n : UInt32) (l : List Ed) (x : List UInt8) : mis (inputB n l ++ x) magic 0 = none := by
  simp [inputB, magic, mis]
theorem inputB_n (n : UInt32) (l : List Ed) (x : List UInt8) : rdN (((inputB n l ++ x).drop 4).take 4) = n.toNat := by
  have e : ((inputB n l ++ x).drop 4).take 4 = le n.toNat 4 := by
    simp only [inputB, List.append_assoc]
    rw [show (4 : Nat) = magic.length from rfl, List.drop_left, List.take_append_of_le_length (by simp [length_le, magic]), List.take_of_length_le (by simp [length_le, magic])]
  rw [e, rd_le]
  exact Nat.mod_eq_of_lt n.toNat_lt
theorem inputB_m (n : UInt32) (l : List Ed) (x : List UInt8) (hl : l.length < 2 ^ 32) : rdN (((inputB n l ++ x).drop 8).take 4) = l.length := by
  have e : ((inputB n l ++ x).drop 8).take 4 = le l.length 4 := by
    simp only [inputB, List.append_assoc]
    rw [← List.append_assoc, show (8 : Nat) = (magic ++ le n.toNat 4).length from by simp [length_le, magic], List.drop_left]
    rw [show (le l.length 4 ++ x).take 4 = (le l.length 4 ++ x).take (le l.length 4).length from by simp [length_le], List.take_left]
  rw [e, rd_le]
  exact Nat.mod_eq_of_lt hl
theorem head_inputB (n : UInt32) (l : List Ed) (x : List UInt8) (hl : l.length ≤ 16777216) (hn : n.toNat ≤ 2147483647) (h0 : ¬ (n.toNat = 0 ∧ 0 < l.length)) : headM (inputB n l ++ x) = (n.toNat, l.length, none) := by
  have h1 := inputB_n n l x
  have h2 := inputB_m n l x (by omega)
  have := head_ok (inputB_mis n l x) (by simp [length_inputB]) (by rw [h1]; omega) (by rw [h2]; omega) (by rw [h1, h2]; exact h0)
  rw [h1, h2] at this
  exact this
theorem head_inputB_n (n : UInt32) (l : List Ed) (x : List UInt8) (hn : 2147483647 < n.toNat) : headM (inputB n l ++ x) = (0, 0, some (9, 4)) :=
  head_n (inputB_mis n l x) (by simp [length_inputB]) (by rw [inputB_n]; exact hn)
theorem head_inputB_z (n : UInt32) (l : List Ed) (x : List UInt8) (hl : l.length ≤ 16777216) (h0 : n.toNat = 0 ∧ 0 < l.length) : headM (inputB n l ++ x) = (0, 0, some (8, 8)) := by
  have h1 := inputB_n n l x
  have h2 := inputB_m n l x (by omega)
  exact head_z (inputB_mis n l x) (by simp [length_inputB]) (by rw [h1]; omega) (by rw [h2]; omega) (by rw [h1, h2]; exact h0)
theorem rd_magic (w : World) : RdB (w.alloc (.cells #[.int .u8 77, .int .u8 80, .int .u8 71, .int .u8 49] 5 (4, 5))) (.slice (some ⟨w.heap.size, 0, none⟩) 4 4) magic :=
  (own_lit w 0 1 4 4 #[.int .u8 77, .int .u8 80, .int .u8 71, .int .u8 49] 5 (4, 5) (.inl (Nat.le_refl _)) rfl (Nat.le_refl _) (by unfold maxLen; omega) (Nat.zero_le _)).rd
theorem writeM_bad {n : UInt32} {l : List Ed} (h : writeOk n l = false) : writeM n l = ([], 1) := by unfold writeM; rw [h]; rfl
theorem writeM_ok {n : UInt32} {l : List Ed} (h : writeOk n l = true) : writeM n l = (inputB n l ++ l.flatMap Ed.row, 0) := by unfold writeM; rw [h]; rfl
theorem writeOk_n {n : UInt32} {l : List Ed} (h : 2147483647 < n.toNat) : writeOk n l = false := by
  unfold writeOk; simp [show ¬ n.toNat ≤ 2147483647 from by omega]
theorem writeOk_z {n : UInt32} {l : List Ed} (h : n.toNat = 0 ∧ 0 < l.length) : writeOk n l = false := by
  unfold writeOk; rw [h.1, decide_eq_true h.2]; simp
theorem writeOk_row {n : UInt32} {l : List Ed} (h : l.all (rowOk n) = false) : writeOk n l = false := by
  unfold writeOk; rw [h]; simp
theorem writeOk_ok {n : UInt32} {l : List Ed} (hl : l.length ≤ 16777216) (hn : n.toNat ≤ 2147483647) (h0 : ¬ (n.toNat = 0 ∧ 0 < l.length)) (h : l.all (rowOk n) = true) : writeOk n l = true := by
  unfold writeOk; rw [h, decide_eq_true hl, decide_eq_true hn]
  have : (decide (n.toNat = 0) && decide (0 < l.length)) = false := by
    rw [Bool.and_eq_false_iff, decide_eq_false_iff_not, decide_eq_false_iff_not]
    by_cases h : n.toNat = 0
    · exact .inr (fun h2 => h0 ⟨h, h2⟩)
    · exact .inl h
  rw [this]; rfl

set_option maxHeartbeats 2000000 in
theorem write_any (n : UInt32) (v : Value) (l : List Ed) (w : World) (h : RdE w v l) (hl : l.length ≤ 20000000) :
    Calls Tryd.prog 11 #[.int .u32 n.toNat, v] w fun e w' => ResW w.heap.size (writeM n l) e w' ∧ w.grownBy w' none := by
  obtain ⟨A, c, rfl⟩ := h.form
  obtain ⟨g, off, hA, hcells⟩ := h.at_
  have HA := Lib.hid hA
  have HC := Lib.hid hcells
  clear hA hcells
  have R0 := Lib.hid h
  have hn := n.toNat_lt
  by_cases h1 : 16777216 < l.length
  · have Hm : Hid (writeM n l = ([], 1)) := by
      have : writeOk n l = false := by unfold writeOk; simp [show ¬ l.length ≤ 16777216 from by omega]
      unfold writeM; rw [this]; exact rfl
    clear h
    go_enter Tryd.func11, Tryd.ntmps11
    go_wp2
    go_ret2
    exact ⟨⟨_, by rw [Hm.out]; rfl, by rw [Hm.out]; exact OwnB.nil _ _⟩, gr_refl _ _⟩
  have kc := fun (w : World) (C : Array Value) (n c : Nat) => Lib.run_convert_bytes_const (P := Tryd.prog) w 31 5 C n c Tryd.underlying31 Tryd.underlying5
  clear h
  by_cases hA : 2147483647 < n.toNat
  · have Hh := Lib.hid (head_inputB_n n l [] hA)
    have Hm := Lib.hid (writeM_bad (writeOk_n (l := l) hA))
    go_enter Tryd.func11, Tryd.ntmps11
    go_wp2_with fail
    refine (put_i 4 _ 4 n.toNat rfl ?_ _ magic _ (by omega) (by omega) (by simp [magic]) (rd_magic w)).mono ?_
    · rfl
    rintro e w1 ⟨v1, rfl, h1, g1⟩
    have G1 := gr_none (gr_alloc w (.cells #[.int .u8 77, .int .u8 80, .int .u8 71, .int .u8 49] 5 (4, 5)) none) g1
    go_wp2_with fail
    refine (put_i 4 _ 4 l.length rfl ?_ v1 _ _ (by omega) (by omega) (by simp [magic, length_le]) h1.rd).mono ?_
    · rfl
    rintro e w2 ⟨v2, rfl, h2, g2⟩
    have G2 := gr_none G1 g2
    have Hb : OwnB w2 w.heap.size v2 (inputB n l) := OwnB.mono h2 G1.size
    clear h1 g1 h2 g2 G1
    have hhead := head_any v2 (inputB n l ++ []) w2 (by rw [List.append_nil]; exact Hb.rd) (by simp [length_inputB])
    unfold ResH at hhead
    rw [Hh.out] at hhead
    have Hhead := Lib.hid hhead
    clear hhead
    go_wp2_with (go_at_call 22; refine Hhead.out.mono ?_; rintro e w3 ⟨rfl, g3⟩; simp only [errV])
    go_ret2
    exact ⟨⟨_, by rw [Hm.out]; rfl, by rw [Hm.out]; exact OwnB.nil _ _⟩, gr_none G2 g3⟩
  by_cases hB : n.toNat = 0 ∧ 0 < l.length
  · have Hh := Lib.hid (head_inputB_z n l [] (by omega) hB)
    have Hm := Lib.hid (writeM_bad (writeOk_z hB))
    clear hB
    go_enter Tryd.func11, Tryd.ntmps11
    go_wp2_with fail
    refine (put_i 4 _ 4 n.toNat rfl ?_ _ magic _ (by omega) (by omega) (by simp [magic]) (rd_magic w)).mono ?_
    · rfl
    rintro e w1 ⟨v1, rfl, h1, g1⟩
    have G1 := gr_none (gr_alloc w (.cells #[.int .u8 77, .int .u8 80, .int .u8 71, .int .u8 49] 5 (4, 5)) none) g1
    go_wp2_with fail
    refine (put_i 4 _ 4 l.length rfl ?_ v1 _ _ (by omega) (by omega) (by simp [magic, length_le]) h1.rd).mono ?_
    · rfl
    rintro e w2 ⟨v2, rfl, h2, g2⟩
    have G2 := gr_none G1 g2
    have Hb : OwnB w2 w.heap.size v2 (inputB n l) := OwnB.mono h2 G1.size
    clear h1 g1 h2 g2 G1
    have hhead := head_any v2 (inputB n l ++ []) w2 (by rw [List.append_nil]; exact Hb.rd) (by simp [length_inputB])
    unfold ResH at hhead
    rw [Hh.out] at hhead
    have Hhead := Lib.hid hhead
    clear hhead
    go_wp2_with (go_at_call 22; refine Hhead.out.mono ?_; rintro e w3 ⟨rfl, g3⟩; simp only [errV])
    go_ret2
    exact ⟨⟨_, by rw [Hm.out]; rfl, by rw [Hm.out]; exact OwnB.nil _ _⟩, gr_none G2 g3⟩
  have Hh := Lib.hid (head_inputB n l [] (by omega) (by omega) hB)
  have HO := Lib.hid (writeOk_ok (n := n) (l := l) (by omega) (by omega) hB)
  have HM := Lib.hid (@writeM_ok n l)
  have HR := Lib.hid (fun h => writeM_bad (writeOk_row (n := n) (l := l) h))
  clear hB
  go_enter Tryd.func11, Tryd.ntmps11
  go_wp2_with fail
  refine (put_i 4 _ 4 n.toNat rfl ?_ _ magic _ (by omega) (by omega) (by simp [magic]) (rd_magic w)).mono ?_
  · rfl
  rintro e w1 ⟨v1, rfl, h1, g1⟩
  have G1 := gr_none (gr_alloc w (.cells #[.int .u8 77, .int .u8 80, .int .u8 71, .int .u8 49] 5 (4, 5)) none) g1
  go_wp2_with fail
  refine (put_i 4 _ 4 l.length rfl ?_ v1 _ _ (by omega) (by omega) (by simp [magic, length_le]) h1.rd).mono ?_
  · rfl
  rintro e w2 ⟨v2, rfl, h2, g2⟩
  have G2 := gr_none G1 g2
  have Hb : OwnB w2 w.heap.size v2 (inputB n l) := OwnB.mono h2 G1.size
  clear h1 g1 h2 g2 G1
  have hhead := head_any v2 (inputB n l ++ []) w2 (by rw [List.append_nil]; exact Hb.rd) (by simp [length_inputB])
  unfold ResH at hhead
  rw [Hh.out] at hhead
  have Hhead := Lib.hid hhead
  clear hhead
  go_wp2_with (go_at_call 22; refine Hhead.out.mono ?_; rintro e w3 ⟨rfl, g3⟩; simp only [errV])
  have G3 := Lib.hid (gr_none G2 g3)
  have Hb2 := Lib.hid (Hb.ext g3)
  clear Hb G2 g3 Hhead
  go_loopw [6, 37] (fun u i wr => ∃ k : Nat, k ≤ l.length ∧ i = .int .i64 k ∧ (l.take k).all (rowOk n) = true ∧ OwnB wr w.heap.size u (inputB n l ++ (l.take k).flatMap Ed.row) ∧ w.grownBy wr none)
    (fun _ i _ => l.length - (intOf i).toNat)
  case atStart => exact ⟨0, by omega, rfl, by simp, by simpa using Hb2.out, G3.out⟩
  case round =>
    obtain ⟨k, hk, rfl, hall, hown, hg⟩ := hrel
    have Hall := Lib.hid hall
    have hsz := hg.size
    clear hall
    by_cases hlt : k < l.length
    · have := HA.out (by omega)
      subst this
      rcases hx : l[k] with ⟨xt, xh, xw, xm⟩
      obtain ⟨c0, c1, c2, c3⟩ := at4 HC.out hg hlt hx
      have Hx := Lib.hid hx
      have hed := edge_any ⟨xt, xh, xw, xm⟩
      simp only [Ed.v, Ed.cells, u32v, u64v] at hed
      have Hed := Lib.hid hed
      clear hx hed
      go_wp2_with fail
      refine (Hed.out _).mono ?_
      rintro e w4 ⟨v4, rfl, h4, g4⟩
      obtain ⟨A4, q4, rfl⟩ := h4.rd.form
      have hq4 : 20 ≤ q4 := by have := h4.rd.cap; rw [length_bytes] at this; exact this
      have hq5 : 20 ≤ (Ed.bytes ⟨xt, xh, xw, xm⟩).length := by rw [length_bytes]; omega
      have R4 := Lib.hid (row_cut h4)
      have G4 := Lib.hid (gr_none (gr_none hg (gr_alloc _ _ _)) g4)
      have Ho4 := Lib.hid (hown.ext (gr_none (gr_alloc _ _ _) g4))
      clear h4 g4 hg hown
      rcases hrow : rowM (Ed.row ⟨xt, xh, xw, xm⟩) n 0 with ⟨⟨yt, yh, yw, ym⟩, f⟩
      have hrw := row0_any _ _ n w4 R4.out (by rw [length_row]; omega)
      unfold ResR at hrw
      rw [hrow] at hrw
      simp only [Ed.v, Ed.cells, u32v, u64v] at hrw
      have Hrw := Lib.hid hrw
      have Hrow := Lib.hid hrow
      clear hrw hrow
      rcases f with _ | f
      · have hlen : (inputB n l ++ (l.take k).flatMap Ed.row).length + (Ed.row ⟨xt, xh, xw, xm⟩).length ≤ 70000000000000 := by
          rw [length_row, List.length_append, length_inputB]
          have : ((l.take k).flatMap Ed.row).length = (l.take k).length * 16 := flatMap_len _ (fun e => length_row e) _
          rw [this]; simp; omega
        go_wp2_with fail
        refine Hrw.out.mono ?_
        rintro e w5 ⟨rfl, g5⟩
        simp only [errV]
        have R5 := Lib.hid ((R4.out.ext g5).ext (gr_alloc _ (.cells #[.int .u32 yt.toNat, .int .u32 yh.toNat, .int .u64 yw.toNat, .int .u32 ym.toNat] 29) _))
        have G5 := Lib.hid (gr_none (gr_none G4.out g5) (gr_alloc _ (.cells #[.int .u32 yt.toNat, .int .u32 yh.toNat, .int .u64 yw.toNat, .int .u32 ym.toNat] 29) _))
        have Ho5 := Lib.hid ((Ho4.out.ext g5).ext (gr_alloc _ (.cells #[.int .u32 yt.toNat, .int .u32 yh.toNat, .int .u64 yw.toNat, .int .u32 ym.toNat] 29) _))
        have hz5 := G5.out.size
        clear g5
        go_wp2_with (at_builtin; refine wp_appB rfl (.tmp 52) (.tmp 53) rfl rfl Ho5.out rfl R5.out hlen hz5 ?_; intro v6 w6 h6 g6 a6)
        go_roundw
        case rel => exact ⟨k + 1, by omega, by go_num, all_take_succ Hall.out hlt (by rw [Hx.out]; unfold rowOk; rw [Hrow.out]; rfl), by
          rw [flatMap_take_succ hlt, Hx.out, ← List.append_assoc]; exact h6, gr_trans G5.out g6 (.inr fun j hj => Own.lt Ho5.out j hj)⟩
        case measure => simp [intOf]; omega
      · have Hbad := Lib.hid (HR.out (all_false hlt (by rw [Hx.out]; unfold rowOk; rw [Hrow.out]; rfl)))
        go_wp2_with fail
        refine Hrw.out.mono ?_
        rintro e w5 ⟨rfl, g5⟩
        simp only [errV]
        go_wp2
        go_ret2
        exact ⟨⟨_, by rw [Hbad.out]; rfl, by rw [Hbad.out]; exact OwnB.nil _ _⟩, gr_none (gr_none G4.out g5) (gr_alloc _ _ _)⟩
    · obtain rfl : k = l.length := by omega
      have hall := Hall.out
      rw [List.take_length] at hall hown
      have Hok := Lib.hid (HM.out (HO.out hall))
      have Hown := Lib.hid hown
      clear hall hown
      go_wp2
      go_ret2
      exact ⟨⟨_, by rw [Hok.out]; rfl, by rw [Hok.out]; exact Hown.out⟩, hg⟩
end Go.Proofs.YthckjpcknmmagaaDoor
