/-
  What is done with a file of pages, in memory; vast of law08.
-/
import Derived.Test.YtipankjajdpiiaaGreatOp
import Derived.Test.YtipankjajdpiiaaGreatRef
namespace Go.Proofs.YtipankjajdpiiaaGreat
open Go.RowKit
set_option maxRecDepth 100000
set_option maxHeartbeats 400000

structure OpF where
  kind : Int
  name : List UInt8
  k : Int
  bv : Value
  b : List UInt8
  d : OpV
def OpF.cells (o : OpF) : List Value := [.int .i64 o.kind, .string ⟨o.name.toArray⟩, .int .i64 o.k, o.bv, .int .i64 o.d.kind, .string ⟨o.d.name.toArray⟩, .string ⟨o.d.into.toArray⟩, .int .i64 o.d.off, .int .i64 o.d.n, o.d.bv, .int .u8 o.d.mask.toNat, o.d.kv]
structure OpFk (w : World) (o : OpF) : Prop where
  b : RdB w o.bv o.b
  kind : -9223372036854775808 ≤ o.kind ∧ o.kind ≤ 9223372036854775807
  k : -9223372036854775808 ≤ o.k ∧ o.k ≤ 9223372036854775807
  name : o.name.length ≤ maxLen
  d : OpOk w o.d
def opF (l : List OpF) : List Value := l.flatMap OpF.cells
def RdFo (w : World) (v : Value) (l : List OpF) : Prop := Rd w 12 v l.length (opF l) ∧ ∀ o ∈ l, OpFk w o
theorem opF_at (l : List OpF) {k j : Nat} (hk : k < l.length) (hj : j < 12) : (opF l)[k * 12 + j]? = (l[k].cells)[j]? := by
  induction l generalizing k with
  | nil => simp at hk
  | cons r l ih =>
    have hl : r.cells.length = 12 := rfl
    unfold opF at *
    rw [List.flatMap_cons]
    cases k with
    | zero =>
      rw [List.getElem?_append_left (by omega)]
      simp
    | succ k =>
      rw [List.getElem?_append_right (by omega), hl, show (k + 1) * 12 + j - 12 = k * 12 + j from by omega]
      exact ih (by simpa using hk)
theorem OpFk.ext {w w' : World} {o : OpF} (h : OpFk w o) (g : w.grownBy w' none) : OpFk w' o := { h with b := h.b.ext g, d := h.d.ext g }
theorem RdFo.ext {w w' : World} {v : Value} {l : List OpF} (h : RdFo w v l) (g : w.grownBy w' none) : RdFo w' v l := ⟨Rd.ext h.1 g, fun o ho => (h.2 o ho).ext g⟩
theorem RdFo.form {w : World} {v : Value} {l : List OpF} (h : RdFo w v l) : ∃ A c, v = .slice A l.length c := by
  obtain ⟨⟨_, A, c, _, _, e, _⟩, _⟩ := h; exact ⟨A, c, e⟩
theorem RdFo.at_ {w : World} {A : Option Addr} {c : Nat} {l : List OpF} (h : RdFo w (.slice A l.length c) l) : ∃ g off, (0 < l.length → A = some ⟨g, off, none⟩) ∧ l.length ≤ c ∧ c ≤ maxLen ∧ ∀ k (hk : k < l.length) j, j < 12 → w.cell? ⟨g, off + k * 12 + j, none⟩ = (l[k].cells)[j]? := by
  obtain ⟨⟨hl, A', c', g, off, e, hn, hc, hA0, hA, hx⟩, _⟩ := h
  cases e
  refine ⟨g, off, fun h0 => hA (by omega), hn, hc, fun k hk j hj => ?_⟩
  rw [Nat.add_assoc, hx _ (by omega), opF_at l hk hj]
def opFW (o : OpF) : Nat := min o.b.length 131072 + min o.name.length 131072
def sumF (l : List OpF) : Nat := (l.map opFW).sum
def vastF (l : List OpF) : Bool := decide (100 < l.length) || decide (65536 < sumF l) || vastB (l.map OpF.d)
theorem sumF_take {l : List OpF} {k : Nat} (hk : k < l.length) : sumF (l.take (k + 1)) = sumF (l.take k) + opFW l[k] := by
  unfold sumF
  rw [List.take_succ_eq_append_getElem hk, List.map_append, List.sum_append]
  simp
theorem sumF_mono (l : List OpF) (k : Nat) : sumF (l.take k) ≤ sumF l := by
  have e : l = l.take k ++ l.drop k := (List.take_append_drop k l).symm
  conv => rhs; rw [e]
  unfold sumF
  rw [List.map_append, List.sum_append]
  omega
theorem vastF_no {l : List OpF} (h : vastF l = false) : l.length ≤ 100 ∧ sumF l ≤ 65536 ∧ sumW (l.map OpF.d) ≤ 65536 := by
  unfold vastF vastB at h
  simp at h
  omega
theorem opFW_small {o : OpF} (h : opFW o ≤ 65536) : o.b.length ≤ opFW o ∧ o.name.length ≤ 65536 := by
  unfold opFW at *
  omega
/-! a row of law06's operations of the call's own -/
def OwnO (w : World) (B : Nat) (v : Value) (l : List OpV) : Prop := Own w B 8 v l.length (opL l)
theorem Tryz.infoO : (Tryz.prog.info? 61).map (fun i => (i.zero, i.size, i.bytes)) = some (some (.agg #[.int .i64 0, .string ⟨#[]⟩, .string ⟨#[]⟩, .int .i64 0, .int .i64 0, .slice none 0 0, .int .u8 0, .slice none 0 0]), 8, 112) := by kernel_rfl
theorem op_one {o : OpV} {Ab Ak : Option Addr} {nb cb nk ck : Nat} (e1 : o.bv = .slice Ab nb cb) (e2 : o.kv = .slice Ak nk ck) : ∀ u ∈ o.cells, u.oneCell' = true := by
  unfold OpV.cells
  rw [e1, e2]
  intro u hu
  simp only [List.mem_cons, List.not_mem_nil, or_false] at hu
  rcases hu with rfl | rfl | rfl | rfl | rfl | rfl | rfl | rfl <;> rfl
theorem wp_app1O {ops : Array Oper} {rest : List Oper} {q : Oper} {a : Act} {Q : Exit → Act → World → Prop} {w : World} (o : OpV) {Ab Ak : Option Addr} {nb cb nk ck : Nat} (e1 : o.bv = .slice Ab nb cb) (e2 : o.kv = .slice Ak nk ck) (C : Array Value) (hC : C = o.cells.toArray) (hgd : q.guard = none) (s0 x0 : Operand)
    (ho : q.op = .call { callee := .builtin .append, args := #[s0, x0], argTypes := #[101, 101] }) {B : Nat} {v : Value} {l : List OpV} (hs : a.eval s0 = v) (hown : OwnO w B v l)
    (g : Nat) (hx : a.eval x0 = .slice (some ⟨g, 0, none⟩) 1 1) (hg : g = w.heap.size) (hn : l.length ≤ 1000000000) (hB : B ≤ w.heap.size)
    (h : ∀ v' w', OwnO w' B v' (l ++ [o]) → w.grownBy w' v.ownBlock → wpList Tryz.prog ops Q rest (a.put q.dst v') w') :
    wpList Tryz.prog ops Q (q :: rest) a (w.alloc (.cells C 61)) := by
  subst hC hg
  have hsz : o.cells.toArray.size = 8 := rfl
  refine wp_app1 w o.cells.toArray hgd s0 x0 _ ho B 61 _ 8 112 Tryz.underlying101 Tryz.infoO rfl (by omega) v _ _ hs hown hx hsz (by simpa using op_one e1 e2) (by unfold maxLen; omega) (by omega) hB
    fun v' w' h1 h2 _ => h v' w' ?_ h2
  unfold OwnO opL at *
  rw [List.length_append, List.flatMap_append]
  simpa using h1
theorem OwnO.ext {w w' : World} {B : Nat} {v : Value} {l : List OpV} (h : OwnO w B v l) (g : w.grownBy w' none) : OwnO w' B v l := Own.ext h g
theorem gr_appO {w0 w w' : World} {B : Nat} {v : Value} {l : List OpV} (h0 : w0.grownBy w none) (ho : OwnO w B v l) (hB : w0.heap.size ≤ B) (hg : w.grownBy w' v.ownBlock) : w0.grownBy w' none := by
  refine gr_trans h0 hg ?_
  cases hv : v.ownBlock with
  | none => exact .inl rfl
  | some q => exact .inr fun q' e => by cases e; exact Nat.le_trans hB (Own.lt ho _ hv)
set_option maxHeartbeats 2000000 in
theorem vastF_any (v : Value) (l : List OpF) (w : World) (h : RdFo w v l) :
    Calls Tryz.prog 17 #[v] w fun e w' => e = .returned (.bool (vastF l)) ∧ w.grownBy w' none := by
  obtain ⟨A, c, rfl⟩ := h.form
  obtain ⟨g, off, hA, hcap, hmx, hcells⟩ := h.at_
  have HA := Lib.hid hA
  have HC := Lib.hid hcells
  have HOK := Lib.hid h.2
  clear hA hcells h
  by_cases hbig : 100 < l.length
  · have hv : Hid (vastF l = true) := by show _ = _; unfold vastF; simp [hbig]
    go_enter Tryz.func17, Tryz.ntmps17
    go_wp2
    go_ret
    exact ⟨by rw [hv.out]; rfl, gr_refl _ _⟩
  · have hl : l.length ≤ 100 := by omega
    clear hbig
    go_enter Tryz.func17, Tryz.ntmps17
    go_wp2
    go_loopw [3, 4, 5] (fun r s i wr => ∃ k : Nat, k ≤ l.length ∧ i = .int .i64 k ∧ (∃ m : Nat, s = .int .i64 m ∧ Hid (m = sumF (l.take k)) ∧ m ≤ 65536) ∧ (∃ Ar cr, r = .slice Ar ((l.take k).map OpF.d).length cr ∧ Hid (OwnO wr w.heap.size (.slice Ar ((l.take k).map OpF.d).length cr) ((l.take k).map OpF.d))) ∧ w.grownBy wr none) (fun _ _ i _ => l.length - (intOf i).toNat)
    case atStart => exact ⟨0, by omega, rfl, ⟨0, rfl, rfl, by omega⟩, ⟨none, 0, rfl, Own.nil _ _ _⟩, gr_refl _ _⟩
    case round =>
      obtain ⟨k, hk, rfl, ⟨m, rfl, hm, hm2⟩, ⟨Ar, cr, rfl, ho⟩, hg⟩ := hrel
      by_cases hlt : k < l.length
      · obtain rfl := HA.out (by omega)
        have hc := HC.out k hlt
        have hok := HOK.out l[k] (List.getElem_mem hlt)
        have hsum := sumF_take hlt
        have hdo : (l.take (k + 1)).map OpF.d = (l.take k).map OpF.d ++ [l[k].d] := by rw [List.take_succ_eq_append_getElem hlt, List.map_append]; rfl
        rcases hx : l[k] with ⟨kind, name, kk, bv, b, dkind, dname, dinto, doff, dn, dbv, db, dmask, dkv, dkeep⟩
        rw [hx] at hc hok hsum hdo
        obtain ⟨Ab, cb, rfl⟩ : ∃ Ab cb, bv = .slice Ab b.length cb := hok.b.form
        obtain ⟨Ad, cd, rfl⟩ : ∃ Ad cd, dbv = .slice Ad db.length cd := hok.d.b.form
        obtain ⟨Ak, ck, rfl⟩ : ∃ Ak ck, dkv = .slice Ak dkeep.length ck := hok.d.keep.form
        have c1 : wr.cell? ⟨g, off + k * 12 + 1, none⟩ = some (.string ⟨name.toArray⟩) := hg.cell (hc 1 (by omega)) (by simp)
        have c3 : wr.cell? ⟨g, off + k * 12 + 3, none⟩ = some (.slice Ab b.length cb) := hg.cell (hc 3 (by omega)) (by simp)
        have c4 : wr.cell? ⟨g, off + k * 12 + 4, none⟩ = some (.int .i64 dkind) := hg.cell (hc 4 (by omega)) (by simp)
        have c5 : wr.cell? ⟨g, off + k * 12 + 5, none⟩ = some (.string ⟨dname.toArray⟩) := hg.cell (hc 5 (by omega)) (by simp)
        have c6 : wr.cell? ⟨g, off + k * 12 + 6, none⟩ = some (.string ⟨dinto.toArray⟩) := hg.cell (hc 6 (by omega)) (by simp)
        have c7 : wr.cell? ⟨g, off + k * 12 + 7, none⟩ = some (.int .i64 doff) := hg.cell (hc 7 (by omega)) (by simp)
        have c8 : wr.cell? ⟨g, off + k * 12 + 8, none⟩ = some (.int .i64 dn) := hg.cell (hc 8 (by omega)) (by simp)
        have c9 : wr.cell? ⟨g, off + k * 12 + 9, none⟩ = some (.slice Ad db.length cd) := hg.cell (hc 9 (by omega)) (by simp)
        have c10 : wr.cell? ⟨g, off + k * 12 + 10, none⟩ = some (.int .u8 dmask.toNat) := hg.cell (hc 10 (by omega)) (by simp)
        have c11 : wr.cell? ⟨g, off + k * 12 + 11, none⟩ = some (.slice Ak dkeep.length ck) := hg.cell (hc 11 (by omega)) (by simp)
        have HC1 : Hid (w.cell? ⟨g, off + k * 12 + 1, none⟩ = some (.string ⟨name.toArray⟩)) := hc 1 (by omega)
        have HC3 : Hid (w.cell? ⟨g, off + k * 12 + 3, none⟩ = some (.slice Ab b.length cb)) := hc 3 (by omega)
        have hnm : name.length ≤ maxLen := hok.name
        have hbr : RdB w (.slice Ab b.length cb) b := hok.b
        have hbc : b.length ≤ maxLen := by obtain ⟨_, _, _, _, _, e, h1, h2, _⟩ := hbr; cases e; omega
        obtain ⟨x1, e1⟩ : ∃ x1 : Nat, x1 = min b.length 131072 := ⟨_, rfl⟩
        obtain ⟨x2, e2⟩ : ∃ x2 : Nat, x2 = min name.length 131072 := ⟨_, rfl⟩
        have m1 : min (b.length : Int) 131072 = (x1 : Int) := by omega
        have m2 : min (name.length : Int) 131072 = (x2 : Int) := by omega
        have b1 : x1 ≤ 131072 ∧ x2 ≤ 131072 := by omega
        have hopw : opFW ⟨kind, name, kk, .slice Ab b.length cb, b, dkind, dname, dinto, doff, dn, .slice Ad db.length cd, db, dmask, .slice Ak dkeep.length ck, dkeep⟩ = x1 + x2 := by unfold opFW; dsimp only; omega
        rw [hopw] at hsum
        have HS : Hid (sumF (l.take (k + 1)) = m + x1 + x2) := by show _ = _; rw [hsum, hm.out]; omega
        have s1 : IntKind.i64.wrap ((m : Int) + (x1 : Int)) = (m : Int) + (x1 : Int) := by rw [IntWalk.i64_in _ (by omega)]
        have s2 : IntKind.i64.wrap ((m : Int) + (x1 : Int) + (x2 : Int)) = (m : Int) + (x1 : Int) + (x2 : Int) := by rw [IntWalk.i64_in _ (by omega)]
        have hk1 : (0 : Int) ≤ (k : Int) := by omega
        have hk2 : (k : Int) < (l.length : Int) := by omega
        obtain ⟨t, ht⟩ : ∃ t : Nat, t = m + x1 + x2 := ⟨_, rfl⟩
        have ht2 : (m : Int) + (x1 : Int) + (x2 : Int) = (t : Int) := by omega
        have HT2 := Lib.hid ht2
        have HT : Hid (t = sumF (l.take (k + 1))) := by show _ = _; rw [HS.out, ht]
        have htb : t ≤ 600000 := by omega
        have HG := Lib.hid hg
        have HDO := Lib.hid hdo
        have hlen : ((l.take k).map OpF.d).length ≤ 1000000000 := by simp; omega
        have hzw := hg.size
        generalize (l.take k).map OpF.d = LD at *
        clear hbr hc hok hsum hx e1 e2 hopw ht ht2 HS hdo hg
        go_wp2_with (at_builtin; refine wp_app1O ⟨dkind, dname, dinto, doff, dn, .slice Ad db.length cd, db, dmask, .slice Ak dkeep.length ck, dkeep⟩ rfl rfl _ rfl rfl (.tmp 15) (.tmp 21) rfl rfl ho.out wr.heap.size rfl rfl hlen hzw ?_; intro v7 w7 h7 g7; have G7 : Hid (w.grownBy w7 none) := gr_appO HG.out ho.out (Nat.le_refl _) g7; have H7 := Lib.hid h7; have k1 := G7.out.cell HC1.out (by simp); have k3 := G7.out.cell HC3.out (by simp); clear g7 h7)
        go_quiet (fail)
        rw [HT2.out]
        obtain ⟨A7, c7', rfl⟩ : ∃ A7 c7', v7 = .slice A7 (LD ++ [(⟨dkind, dname, dinto, doff, dn, .slice Ad db.length cd, db, dmask, .slice Ak dkeep.length ck, dkeep⟩ : OpV)]).length c7' := by
          obtain ⟨_, A9, c9, _, _, e, _⟩ := H7.out
          exact ⟨A9, c9, e⟩
        by_cases hov : 65536 < t
        · have hd : decide ((65536 : Int) < (t : Int)) = true := by simp; omega
          have hv : Hid (vastF l = true) := by
            show _ = _
            unfold vastF
            have := sumF_mono l (k + 1)
            rw [← HT.out] at this
            simp; omega
          clear hov
          go_wp2
          go_ret
          exact ⟨by rw [hv.out]; rfl, gr_none G7.out (gr_drewN _ _ _)⟩
        · have hd : decide ((65536 : Int) < (t : Int)) = false := by simp; omega
          have ht3 : t ≤ 65536 := by omega
          clear hov
          go_wp2
          go_roundw
          case rel => exact ⟨k + 1, by omega, by go_num, ⟨t, rfl, HT.out, ht3⟩, ⟨A7, c7', by rw [HDO.out], by rw [HDO.out]; exact H7.out.ext (gr_drewN _ _ none)⟩, gr_none G7.out (gr_drewN _ _ _)⟩
          case measure => simp [intOf]; omega
      · obtain rfl : k = l.length := by omega
        have hs : sumF l ≤ 65536 := by rw [List.take_length] at hm; have := hm.out; omega
        have hv : Hid (vastF l = vastB (l.map OpF.d)) := by
          show _ = _
          unfold vastF
          rw [decide_eq_false (by omega), decide_eq_false (by omega)]
          simp
        rw [List.take_length] at ho
        have HO : Hid (OwnO wr w.heap.size (.slice Ar (l.map OpF.d).length cr) (l.map OpF.d)) := ho
        have hvs := vast_any (.slice Ar (l.map OpF.d).length cr) (l.map OpF.d) wr ⟨Own.rd ho.out, fun o hm => by
          obtain ⟨x, hx, rfl⟩ := List.mem_map.1 hm
          exact (HOK.out x hx).d.ext hg⟩
        rw [List.length_map] at hvs
        have HV := Lib.hid hvs
        have HG := Lib.hid hg
        have e9 : ((l.take l.length).map OpF.d).length = l.length := by rw [List.take_length, List.length_map]
        rw [e9]
        clear hvs hg ho hm
        go_wp2_with fail
        refine HV.out.mono ?_
        rintro e w9 ⟨rfl, q, rfl⟩
        go_wp2
        go_ret
        exact ⟨by rw [hv.out]; rfl, gr_none HG.out (gr_drewN _ _ _)⟩
end Go.Proofs.YtipankjajdpiiaaGreat

/- What does of law08 leaves: an owned state and a told value, seen from an older world. -/
namespace Go.Proofs.YtipankjajdpiiaaGreat
open Go.RowKit Go.Maps
set_option maxRecDepth 100000
set_option maxHeartbeats 400000

/-- something owned, seen from an older world: what a proof wants of it. -/
structure Sta (w0 : World) (St : Own1 → World → Prop) : Prop where
  far : ∀ {O : Own1} {w w' : World} {r : Option Nat}, St O w → w.grownBy w' r → (∀ k, r = some k → O k = none ∧ w0.heap.size ≤ k) → St O w'
  gr : ∀ {O : Own1} {w : World}, St O w → w0.grownBy w none
  fresh : ∀ {O : Own1} {w : World} {i : Nat}, St O w → w.heap.size ≤ i → O i = none
theorem Sta.ext {w0 : World} {St : Own1 → World → Prop} (h : Sta w0 St) {O : Own1} {w w' : World} (hs : St O w) (g : w.grownBy w' none) : St O w' := h.far hs g fun k e => by cases e
def StN (St : Own1 → World → Prop) (O : Own1) (w w' : World) : Prop := ∃ O', St O' w' ∧ Ch O w O' w'
theorem Ch.far {O0 O : Own1} {wb w w' : World} (h : Ch O0 wb O w) {r : Option Nat} (g : w.grownBy w' r) (hr : ∀ k, r = some k → wb.heap.size ≤ k) : Ch O0 wb O w' :=
  ⟨g.os.trans h.os, g.tape.trans h.tape, g.output.trans h.output, Nat.le_trans h.size g.size, fun i hi h0 => (g.block i (Nat.lt_of_lt_of_le hi h.size) fun e => by have := hr i e.symm; omega).trans (h.block i hi h0), h.free⟩
def tZ : Array Value := #[.slice none 0 0, .slice none 0 0, .int .i64 0, .string ⟨#[]⟩, .int .i64 0]
theorem does3f (w : World) (cs : Array Value) {W : World} (hW : W = ((w.alloc (.cells cs 63)).alloc (.cells tZ 57)).alloc (.cells tZ 57)) :
    Blk W w.heap.size 63 cs ∧ Blk W (w.heap.size + 1) 57 tZ ∧ Blk W (w.heap.size + 2) 57 tZ ∧ w.grownBy W none ∧ w.heap.size + 3 ≤ W.heap.size := by
  subst hW
  have h1 := Blk.new w 63 cs
  have h2 := Blk.new (w.alloc (.cells cs 63)) 57 tZ
  have h3 := Blk.new ((w.alloc (.cells cs 63)).alloc (.cells tZ 57)) 57 tZ
  rw [World.size_alloc] at h2
  rw [World.size_alloc, World.size_alloc] at h3
  exact ⟨(h1.ext (gr_alloc _ _ none)).ext (gr_alloc _ _ none), h2.ext (gr_alloc _ _ none), h3, gr_none (gr_none (gr_alloc _ _ none) (gr_alloc _ _ none)) (gr_alloc _ _ none), by simp only [World.size_alloc]; omega⟩
section
variable {w0 w w' w2 : World} {B Z : Nat} {v : Value} {bs : List UInt8} {O : Own1} {St St' : Own1 → World → Prop}
theorem ffin {w3 : World} {K : Nat} {cs : Array Value} (hcs : cs.size = 5) (b4 : Blk w3 K 57 cs) (b l n s e : Value) {WF : World}
    (hWF : WF = ((((w3.setCell ⟨K, 0, none⟩ b).setCell ⟨K, 1, none⟩ l).setCell ⟨K, 2, none⟩ n).setCell ⟨K, 3, none⟩ s).setCell ⟨K, 4, none⟩ e) : ∀ i, WF.cell? ⟨K, i, none⟩ = #[b, l, n, s, e][i]? := by
  subst hWF
  have hb := ((((b4.set 0 b).set 1 l).set 2 n).set 3 s).set 4 e
  intro i
  rw [hb.cell i]
  obtain ⟨c⟩ := cs
  match c, hcs with
  | [a0, a1, a2, a3, a4], _ => rfl
/-- the state behind an operation, and the call's own two blocks. -/
def DoQ (w0 : World) (St : Own1 → World → Prop) (O : Own1) (w w2 : World) : Prop := ∃ O2, St O2 w2 ∧ Ch O w O2 w2 ∧ O2 (w.heap.size + 1) = none ∧ O2 (w.heap.size + 2) = none ∧ w0.heap.size ≤ w.heap.size
theorem DoQ.stn (h : DoQ w0 St O w w2) : StN St O w w2 := by obtain ⟨O2, h1, h2, -⟩ := h; exact ⟨O2, h1, h2⟩
theorem DoQ.of {W : World} (h : StN St O W w2) (g : w.grownBy W none) (hz : w.heap.size + 3 ≤ W.heap.size) (ho : ∀ k, w.heap.size ≤ k → O k = none) (h0 : w0.heap.size ≤ w.heap.size) : DoQ w0 St O w w2 := by
  obtain ⟨O2, h1, h2⟩ := h
  exact ⟨O2, h1, (Ch.ext g).trans h2, h2.free _ (by omega) (ho _ (by omega)), h2.free _ (by omega) (ho _ (by omega)), h0⟩
theorem DoQ.set (hS : Sta w0 St) (h : DoQ w0 St O w w2) {k : Nat} (hk : k = w.heap.size + 1 ∨ k = w.heap.size + 2) (off : Nat) (v : Value) : DoQ w0 St O w (w2.setCell ⟨k, off, none⟩ v) := by
  obtain ⟨O2, h1, h2, h3, h4, h6⟩ := h
  have hk0 : O2 k = none := by rcases hk with rfl | rfl <;> assumption
  exact ⟨O2, hS.far h1 (gr_setCell w2 ⟨k, off, none⟩ v) fun q e => by
    have hq : k = q := Option.some.inj e
    subst hq
    exact ⟨hk0, by omega⟩, h2.far (gr_setCell w2 ⟨k, off, none⟩ v) fun q e => by
    have hq : k = q := Option.some.inj e
    subst hq
    omega, h3, h4, h6⟩
theorem DoQ.ext (hS : Sta w0 St) (h : DoQ w0 St O w w2) (g : w2.grownBy w' none) : DoQ w0 St O w w' := by
  obtain ⟨O2, h1, h2, h3⟩ := h
  exact ⟨O2, hS.ext h1 g, h2.trans (Ch.ext g), h3⟩
/-- the same with a slice of the call's own beside. -/
def DvQ (w0 : World) (St : Own1 → World → Prop) (O : Own1) (w w2 : World) (B : Nat) (v : Value) (bs : List UInt8) (Z : Nat) : Prop := OwnB w2 B v bs ∧ w.heap.size + 3 ≤ B ∧ ∃ O2, St O2 w2 ∧ Ch O w O2 w2 ∧ O2 (w.heap.size + 1) = none ∧ O2 (w.heap.size + 2) = none ∧ w0.heap.size ≤ w.heap.size ∧ (∀ q, Z ≤ q → O2 q = none) ∧ ∀ q, blk v = some q → O2 q = none
theorem DvQ.doq (h : DvQ w0 St O w w2 B v bs Z) : DoQ w0 St O w w2 := by
  obtain ⟨-, -, O2, h1, h2, h3, h4, h5, -⟩ := h
  exact ⟨O2, h1, h2, h3, h4, h5⟩
theorem DvQ.put (hS : Sta w0 St) (h : DvQ w0 St O w w2 B v bs Z) {k : Nat} (hk : k = w.heap.size + 1 ∨ k = w.heap.size + 2) (off : Nat) (x : Value) : DvQ w0 St O w (w2.setCell ⟨k, off, none⟩ x) B v bs Z := by
  obtain ⟨h2, h3, O2, k1, k2, k3, k4, k6, k7, k5⟩ := h
  have hk0 : O2 k = none := by rcases hk with rfl | rfl <;> assumption
  refine ⟨?_, h3, O2, hS.far k1 (gr_setCell w2 ⟨k, off, none⟩ x) fun q e => ?_, k2.far (gr_setCell w2 ⟨k, off, none⟩ x) fun q e => ?_, k3, k4, k6, k7, k5⟩
  · refine Own.same h2 fun q e => (gr_setCell w2 ⟨k, off, none⟩ x).block q (Own.blk_lt h2 (by omega) e).2 fun e2 => ?_
    have hq : k = q := (Option.some.inj e2).symm
    have := (Own.blk_lt h2 (by omega) e).1
    omega
  · have hq : k = q := Option.some.inj e
    subst hq
    exact ⟨hk0, by omega⟩
  · have hq : k = q := Option.some.inj e
    subst hq
    omega
theorem DvQ.ext (hS : Sta w0 St) (h : DvQ w0 St O w w2 B v bs Z) (g : w2.grownBy w' none) : DvQ w0 St O w w' B v bs Z := by
  obtain ⟨h2, h3, O2, k1, k2, k3⟩ := h
  exact ⟨OwnB.ext h2 g, h3, O2, hS.ext k1 g, k2.trans (Ch.ext g), k3⟩
/-- a byte of the slice is written. -/
theorem DvQ.byte (hS : Sta w0 St) {A : Option Addr} {c : Nat} (h : DvQ w0 St O w w2 B (.slice A bs.length c) bs Z) {k : Nat} (hk : k < bs.length) : ∃ g off, A = some ⟨g, off, none⟩ ∧ B ≤ g ∧ bs.length ≤ c ∧ w2.frozen? ⟨g, off + k, none⟩ = false ∧ w2.cell? ⟨g, off + k, none⟩ = some (.int .u8 bs[k].toNat) ∧
    ∀ u : UInt8, DvQ w0 St O w (w2.setCell ⟨g, off + k, none⟩ (.int .u8 u.toNat)) B (.slice A (bs.set k u).length c) (bs.set k u) Z := by
  obtain ⟨h2, h3, O2, k1, k2, k3, k4, k6, k7, k5⟩ := h
  obtain ⟨g, off, rfl, hB, -, hc, hcell, hfr, hset⟩ := h2.at_ hk
  have hb : blk (.slice (some ⟨g, off, none⟩) bs.length c) = some g := by show (if c = 0 then none else some g) = some g; rw [if_neg (by omega)]
  have hO : O2 g = none := k5 g hb
  refine ⟨g, off, rfl, hB, hc, hfr, hcell, fun u => ?_⟩
  rw [List.length_set]
  exact ⟨hset u, h3, O2, hS.far k1 (gr_setCell w2 ⟨g, off + k, none⟩ _) (fun q e => by
    have hq : g = q := Option.some.inj e
    subst hq
    exact ⟨hO, by omega⟩), k2.far (gr_setCell w2 ⟨g, off + k, none⟩ _) (fun q e => by
    have hq : g = q := Option.some.inj e
    subst hq
    omega), k3, k4, k6, k7, k5⟩
theorem DoQ.fin {w3 : World} (hS : Sta w0 St) (h : DoQ w0 St O w w3) {K : Nat} (hK : K = w.heap.size + 1 ∨ K = w.heap.size + 2) (b l n s e : Value) {WF : World}
    (hWF : WF = ((((w3.setCell ⟨K, 0, none⟩ b).setCell ⟨K, 1, none⟩ l).setCell ⟨K, 2, none⟩ n).setCell ⟨K, 3, none⟩ s).setCell ⟨K, 4, none⟩ e) : DoQ w0 St O w WF := by
  subst hWF
  exact ((((h.set hS hK _ _).set hS hK _ _).set hS hK _ _).set hS hK _ _).set hS hK _ _
theorem DvQ.fin {w3 : World} (hS : Sta w0 St) (h : DvQ w0 St O w w3 B v bs Z) {K : Nat} (hK : K = w.heap.size + 1 ∨ K = w.heap.size + 2) (b l n s e : Value) {WF : World}
    (hWF : WF = ((((w3.setCell ⟨K, 0, none⟩ b).setCell ⟨K, 1, none⟩ l).setCell ⟨K, 2, none⟩ n).setCell ⟨K, 3, none⟩ s).setCell ⟨K, 4, none⟩ e) : DvQ w0 St O w WF B v bs Z := by
  subst hWF
  exact ((((h.put hS hK _ _).put hS hK _ _).put hS hK _ _).put hS hK _ _).put hS hK _ _
/-- what is told: bytes, numbers, a number, a name, an error; and a file. -/
structure Tl where
  b : List UInt8
  l : List Int
  n : Nat
  s : List UInt8
  e : Nat
def ToldF (St : Own1 → World → Prop) (O : Own1) (w : World) (x : Tl) (fv : Value) (e : Ending) (w' : World) : Prop :=
  ∃ (A A2 : Option Addr) (c c2 : Nat), e = .returned (.tuple #[.agg #[.slice A x.b.length c, .slice A2 x.l.length c2, .int .i64 (x.n : Nat), .string ⟨x.s.toArray⟩, .int .i64 (x.e : Nat)], fv]) ∧ OwnB w' w.heap.size (.slice A x.b.length c) x.b ∧ OwnI w' w.heap.size (.slice A2 x.l.length c2) x.l ∧ ∃ O', St O' w' ∧ Ch O w O' w'
theorem ToldF.err {fv : Value} {er : Nat} (h : StN St O w w2) : ToldF St O w ⟨[], [], 0, [], er⟩ fv (.returned (.tuple #[.agg #[.slice none 0 0, .slice none 0 0, .int .i64 0, .string ⟨#[]⟩, .int .i64 er], fv])) w2 := by
  obtain ⟨O', h1, h2⟩ := h
  exact ⟨none, none, 0, 0, rfl, OwnB.nil _ _, Own.nil _ _ _, O', h1, h2⟩
theorem ToldF.num {fv : Value} {er n : Nat} (h : StN St O w w2) : ToldF St O w ⟨[], [], n, [], er⟩ fv (.returned (.tuple #[.agg #[.slice none 0 0, .slice none 0 0, .int .i64 n, .string ⟨#[]⟩, .int .i64 er], fv])) w2 := by
  obtain ⟨O', h1, h2⟩ := h
  exact ⟨none, none, 0, 0, rfl, OwnB.nil _ _, Own.nil _ _ _, O', h1, h2⟩
theorem ToldF.name {fv : Value} {er : Nat} {s : List UInt8} (h : StN St O w w2) : ToldF St O w ⟨[], [], 0, s, er⟩ fv (.returned (.tuple #[.agg #[.slice none 0 0, .slice none 0 0, .int .i64 0, .string ⟨s.toArray⟩, .int .i64 er], fv])) w2 := by
  obtain ⟨O', h1, h2⟩ := h
  exact ⟨none, none, 0, 0, rfl, OwnB.nil _ _, Own.nil _ _ _, O', h1, h2⟩
end
end Go.Proofs.YtipankjajdpiiaaGreat
