/-
  The document's disk: Files; On where the power is on.
-/
import Derived.Test.YtipankjajdpiiaaGreatRo
import Derived.Test.YtipankjajdpiiaaGreatSf
import Derived.Test.YtipankjajdpiiaaGreatFa
import Derived.Test.YtipankjajdpiiaaGreatR2
import Derived.Test.YtipankjajdpiiaaGreatRen
import Derived.Test.YtipankjajdpiiaaGreatRf0
namespace Go.Proofs.YtipankjajdpiiaaGreat
open Go.RowKit Go.Maps
set_option maxRecDepth 100000
set_option maxHeartbeats 400000

/-- append(v, f) in a drawn region. -/
theorem step_app1F {ops : Array Oper} {q : Oper} {a : Act} {w : World} {K : Act → World → Prop} {Q : Exit → Act → World → Prop} {E : Prop} (r : Fl) (h1c : r.s.oneCell' = true) (hg : q.guard = none) (s0 x0 : Operand) (ho : q.op = .call { callee := .builtin .append, args := #[s0, x0], argTypes := #[49, 49] })
    {B : Nat} {v x : Value} {l : List Fl} (hs : a.eval s0 = v) (hown : OwnF w B v l) (hr : El w v r) (hx : a.eval x0 = x) (hrd : Rd w 2 x 1 r.enc) (hn : l.length ≤ 1000000000) (hB : B ≤ w.heap.size)
    (hK : ∀ v' w', OwnF w' B v' (l ++ [r]) → w.grownBy w' v.ownBlock → K (a.put q.dst v') w') : if Region.wanted q (yielded ops a.tmps) = true then Oper.wp Tryz.prog q a w K Q else E := by
  have hw : Region.wanted q (yielded ops a.tmps) = true := by simp [Region.wanted, hg]
  rw [if_pos hw]
  obtain ⟨v', w', hrun, h2, h3⟩ := run_appS (P := Tryz.prog) w B 49 q.type 91 _ 2 40 Tryz.underlying49 Tryz.infoFl rfl (by omega) v l.length (l.flatMap Fl.enc) hown.1 x 1 r.enc hrd (by intro u hu; simp [Fl.enc] at hu; rcases hu with rfl | rfl; rfl; exact h1c) (by unfold maxLen; omega) (by omega) hB
  unfold Oper.wp execOp
  simp only [ho, resolve, invoke, builtin, Sem.run_bind, Sem.run_pure, Result.andThen_ok, List.map_toArray, List.map_cons, List.map_nil, hs, hx, hrun]
  have h4 : w.grownBy w' v.ownBlock ∧ (v'.ownBlock = v.ownBlock ∨ ∃ k, v'.ownBlock = some k ∧ w.heap.size ≤ k) := by
    rcases h3 with ⟨A, c, e1, e2, h5⟩ | ⟨k, e1, h5, h6⟩
    · exact ⟨h5, .inl (by rw [e1, e2]; unfold Value.ownBlock; cases A <;> rfl)⟩
    · exact ⟨gr_of_none h6, .inr ⟨k, e1, h5⟩⟩
  exact hK _ _ (hown.app (by unfold OwnG; rw [List.length_append, List.flatMap_append]; simpa using h2) h4.1 h4.2 hr) h4.1
section
variable {w0 w w' wb wx wy : World} {r N c q a i : Nat} {O O1 : Own1} {A : Option Addr} {l : List Rm} {off : Bool} {R : RD}
theorem ron_alive (h : RS w0 w r O R) (hoff : R.off = false) (kv : Value) : Calls Tryz.prog 35 #[.pointer (some ⟨r, 0, none⟩), kv] w fun e w' => e = .returned (.int .i64 14) ∧ w = w' := by
  obtain ⟨A, N, c, l, h, hl⟩ := h
  have b3 : w.cell? ⟨r, 3, none⟩ = some (.bool false) := by rw [← hoff]; exact h.self.cell 3
  clear h hl
  go_enter Tryz.func35, Tryz.ntmps35
  go_wp2_with fail
  go_ret
  exact ⟨rfl, rfl⟩
set_option maxHeartbeats 8000000 in
theorem rfiles_any (h : RS w0 w r O R) : Calls Tryz.prog 16 #[.pointer (some ⟨r, 0, none⟩)] w fun e w' => ∃ v l, e = .returned v ∧ OwnF w' w.heap.size v l ∧ l.map (fun x => (x.n, x.b)) = R.L.map (fun f => (f.n, f.now)) ∧ w.grownBy w' none := by
  obtain ⟨A, N, c, l, h, hl⟩ := h
  have hlimN := h.lim.2.2
  have HLN : Hid (l.length = N) := h.len
  have H := Lib.hid h
  have HL := Lib.hid hl
  clear h hl
  go_enter Tryz.func16, Tryz.ntmps16
  go_wp2_with fail
  go_loopw [3, 4] (fun v iv wr => ∃ (k : Nat) (Av : Option Addr) (cv : Nat) (m : List Fl), k ≤ N ∧ iv = .int .i64 (k : Nat) ∧ v = .slice Av k cv ∧ m.length = k ∧ OwnF wr w.heap.size (.slice Av k cv) m ∧ m.map (fun x => (x.n, x.b)) = (l.take k).map (fun x => (x.n, x.now)) ∧ w.grownBy wr none) (fun _ iv _ => N - (intOf iv).toNat)
  case atStart => exact ⟨0, none, 0, [], Nat.zero_le _, rfl, rfl, rfl, OwnF.nil _ _, rfl, gr_refl _ _⟩
  case round =>
    obtain ⟨k, Av, cv, m, hk, rfl, rfl, hml, ho, hm, hg⟩ := hrel
    rename World => wo
    have HO := Lib.hid ho
    have HM := Lib.hid hm
    have HG := Lib.hid hg
    have HML := Lib.hid hml
    have s0 : wo.cell? ⟨r, 0, none⟩ = some (.slice A N c) := (H.out.ext hg).self.cell 0
    clear ho hm hg hml
    by_cases hlt : k < N
    · have hi : k < l.length := by rw [HLN.out]; exact hlt
      obtain ⟨gl, offl, rfl, -, -, -, -, -, -⟩ := H.out.at_ hlt
      have HCELL : Hid (∀ wx, w.grownBy wx none → wx.cell? ⟨r, 0, none⟩ = some (.slice (some ⟨gl, offl, none⟩) N c) ∧ wx.cell? ⟨gl, offl + k * 4, none⟩ = some (.string ⟨l[k].n.toArray⟩) ∧ wx.cell? ⟨gl, offl + k * 4 + 1, none⟩ = some l[k].nv) := fun wx g => ⟨(H.out.ext g).self.cell 0, ((H.out.ext g).cellsA hlt hi).1, ((H.out.ext g).cellsA hlt hi).2.1⟩
      have hok := (H.out.ext HG.out).ok l[k] (List.getElem_mem hi)
      obtain ⟨_, _, _, _, _, hgr, hgO, hNc⟩ := H.out.cellsA hlt hi
      obtain ⟨X, hX⟩ : ∃ X, X = l[k] := ⟨_, rfl⟩
      rw [← hX] at HCELL hok
      obtain ⟨A1, d1, e1⟩ := RdB.form hok.now
      have hr1 := hok.now
      rw [e1] at hr1 HCELL
      obtain ⟨M1, hM1⟩ : ∃ M, M = X.now.length := ⟨_, rfl⟩
      have hsm := hok.small.2.1
      rw [← hM1] at hr1 HCELL hsm
      have HR1 := Lib.hid hr1
      have HX := Lib.hid hX
      have HM1 := Lib.hid hM1
      obtain ⟨nm, hnm⟩ : ∃ nm, nm = X.n := ⟨_, rfl⟩
      rw [← hnm] at HCELL
      have HNM := Lib.hid hnm
      have hk0 : (0 : Int) ≤ (k : Int) := by omega
      have hk1 : (k : Int) < (N : Int) := by omega
      obtain ⟨c0, c1, c2⟩ := HCELL.out wo HG.out
      have HFE : Hid (∀ w6 A6 c6, wo.grownBy w6 none → OwnB w6 wo.heap.size (.slice A6 M1 c6) X.now → ∀ C, OwnF (w6.alloc C) w.heap.size (.slice Av k cv) m ∧ El (w6.alloc C) (.slice Av k cv) ⟨nm, X.now, .slice A6 M1 c6⟩) := fun w6 A6 c6 g o C => by
        refine ⟨(HO.out.ext g).ext (gr_alloc _ _ none), Own.rd (o.ext (gr_alloc _ _ none)), fun h0 q e => ?_⟩
        have h1 := own_size o h0 q e
        have h2 := Own.lt o q e
        refine ⟨by rw [World.size_alloc]; omega, fun e2 => ?_⟩
        have h3 := HO.out.2.1 q e2
        omega
      clear hok e1 hr1 hM1 hX hnm s0
      go_wp2_with fail
      go_region_held3 (fun w' => w'.cell? ⟨r, 0, none⟩ = some (.slice (some ⟨gl, offl, none⟩) N c) ∧ w'.cell? ⟨gl, offl + k * 4, none⟩ = some (.string ⟨nm.toArray⟩) ∧ w'.cell? ⟨gl, offl + k * 4 + 1, none⟩ = some (.slice A1 M1 d1)) (first | exact k8 | exact k6 | go_keep) (first
        | (refine step_appB1 (B := wo.heap.size) (by rfl) (l := []) (m := X.now) (.tmp 25) (.tmp 33) (by rfl) (by rfl) (own_atB0 _ _ (Nat.le_refl _)) (by rfl) (HR1.out.ext (gr_none (gr_alloc _ _ none) (gr_drew _ none))) (by rw [← HM1.out]; show 0 + M1 ≤ _; omega) (by show _ ≤ (wo.alloc _).heap.size; rw [World.size_alloc]; omega) ?_; rintro v6 w6 o6 g6; obtain ⟨A6, c6, ev6⟩ := RdB.form (OwnB.rd o6); rw [List.nil_append, ← HM1.out] at ev6; subst ev6; rw [List.nil_append] at o6; have g36 : wo.grownBy w6 none := gr_trans (gr_none (gr_alloc _ _ none) (gr_drew _ none)) g6 (.inr fun q e => by cases e; exact Nat.le_refl _); have k6 := HCELL.out w6 (gr_none HG.out g36); have O6 := Lib.hid o6; have G36 := Lib.hid g36; clear o6 g6 g36)
        | (refine step_app1F (B := w.heap.size) (l := m) ⟨nm, X.now, .slice A6 M1 c6⟩ rfl (by rfl) (.tmp 16) (.tmp 36) (by rfl) (by rfl) (HFE.out _ _ _ G36.out O6.out _).1 (HFE.out _ _ _ G36.out O6.out _).2 (by rfl) (rd_lit _ 2 1 1 _ _ rfl (Nat.le_refl _) (by unfold maxLen; omega)) (by rw [HML.out]; omega) (by rw [World.size_alloc]; have := HG.out.size; have := G36.out.size; omega) ?_; rintro v8 w8 o8 g8; obtain ⟨A8, c8, ev8⟩ := OwnF.form o8; rw [List.length_append, HML.out] at ev8; subst ev8; have G8 : Hid (w.grownBy w8 none) := gr_trans (gr_none HG.out (gr_none G36.out (gr_alloc _ _ none))) g8 (.inr fun q e => Own.lt HO.out.1 q e); have k8 := HCELL.out w8 G8.out; have O8 := Lib.hid o8; clear o8 g8))
      have HM8 : Hid ((m ++ [(⟨nm, X.now, .slice A6 M1 c6⟩ : Fl)]).map (fun x => (x.n, x.b)) = (l.take (k + 1)).map (fun x => (x.n, x.now))) := by
        show _ = _
        rw [List.map_append, HM.out, List.take_succ_eq_append_getElem hi, List.map_append, ← HX.out, HNM.out]; rfl
      have HL8 : Hid ((m ++ [(⟨nm, X.now, .slice A6 M1 c6⟩ : Fl)]).length = k + 1) := by show _ = _; rw [List.length_append, HML.out]; rfl
      clear k8 k6
      go_wp2_with fail
      go_roundw
      case rel => exact ⟨k + 1, A8, c8, _, by omega, by go_num, rfl, HL8.out, O8.out, HM8.out, G8.out⟩
      case measure => simp [intOf] <;> omega
    · obtain rfl : k = N := by omega
      have hli : ¬ (k : Int) < (k : Int) := by omega
      have HFIN : Hid (m.map (fun x => (x.n, x.b)) = R.L.map (fun f => (f.n, f.now))) := by
        show _ = _
        rw [HM.out, ← HL.out, List.take_of_length_le (by rw [HLN.out]; exact Nat.le_refl _), List.map_map]; rfl
      go_wp2_with fail
      go_ret
      exact ⟨_, rfl, m, HO.out, HFIN.out, HG.out⟩
end
end Go.Proofs.YtipankjajdpiiaaGreat

/- The document's disk: its names rise; a file's size is small. -/
namespace Go.Proofs.YtipankjajdpiiaaGreat
open Go.RowKit Go.Maps
set_option maxRecDepth 100000
set_option maxHeartbeats 400000

/-- its names rise. -/
def Up (R : RD) : Prop := R.L.Pairwise fun x y => bl x.n y.n = true
theorem Up.nodup {R : RD} (h : Up R) : (R.L.map Rf.n).Nodup := up_nodup h
theorem Up.begin {R : RD} (h : Up R) : Up R.begin := by unfold Up at *; rw [beginL]; exact h
theorem Up.setR {R R' : RD} (h : Up R) {n : List UInt8} {g : Rf → Rf} (hg : ∀ f, (g f).n = f.n) (e : R'.L = setR R.L n g) : Up R' := by
  unfold Up at *
  rw [e]
  unfold Go.Proofs.YtipankjajdpiiaaGreat.setR
  rw [List.pairwise_map]
  have hn : ∀ f : Rf, (if f.n = n then g f else f).n = f.n := fun f => by split; exact hg f; rfl
  exact h.imp fun {x y} hxy => by rw [hn, hn]; exact hxy
theorem Up.create {R : RD} (h : Up R) (n : List UInt8) : Up (R.create n).1 := by
  unfold RD.create
  split
  · exact h.begin
  · split
    · exact h.begin
    · split
      · exact h.begin
      · next h3 => exact putR_up (f := ⟨n, [], [], []⟩) h (find_noneR (by simpa using h3))
theorem Up.sync {R : RD} (h : Up R) (n : List UInt8) : Up (R.sync n).1 := by
  unfold RD.sync
  split
  · exact h.begin
  · split
    · exact h.begin
    · cases R.find n with
      | none => exact h.begin
      | some f => exact h.begin.setR (n := n) (g := fun f => { f with lasts := f.now, loose := [] }) (fun _ => rfl) rfl
theorem Up.cut {R : RD} (h : Up R) (n : List UInt8) (k : Int) : Up (R.cut n k).1 := by
  unfold RD.cut
  split
  · exact h.begin
  · split
    · exact h.begin
    · cases R.find n with
      | none => exact h.begin
      | some f =>
        dsimp only
        split
        · exact h.begin
        · exact h.begin.setR (n := n) (g := fun f => { f with now := f.now.take k.toNat, lasts := f.lasts.take k.toNat, loose := f.loose.take (sectors k.toNat) }) (fun _ => rfl) rfl
theorem Up.write {R : RD} (h : Up R) (n : List UInt8) (k : Int) (b : List UInt8) : Up (R.write n k b).1 := by
  unfold RD.write
  split
  · exact h.begin
  · split
    · exact h.begin
    · cases R.find n with
      | none => exact h.begin
      | some f =>
        dsimp only
        split
        · exact h.begin
        · split
          · exact h.begin
          · split
            · exact h.begin
            · exact h.begin.setR (n := n) (g := fun f => { f with now := overZ f.now k.toNat b, loose := hitL f.loose (max f.now.length (k.toNat + b.length)) k.toNat b.length }) (fun _ => rfl) rfl
/-- what came in is read, whatever is done to blocks of the call's own. -/
theorem rd_chg {w0 w w1 : World} {o o1 : Own1} {s n : Nat} {v : Value} {xs : List Value} (hr : Rd w0 s v n xs) (g : w0.grownBy w none) (ho : ∀ i, o i ≠ none → w0.heap.size ≤ i) (hc : Ch o w o1 w1) : Rd w1 s v n xs := by
  obtain ⟨hl, A, c, gb, off, rfl, hn, hc', hA0, hA, hx⟩ := hr
  refine ⟨hl, A, c, gb, off, rfl, hn, hc', hA0, hA, fun j hj => ?_⟩
  have h0 := hx j hj
  have hsome : ∃ u, w0.cell? ⟨gb, off + j, none⟩ = some u := by
    rw [h0, List.getElem?_eq_getElem (by rw [hl]; exact hj)]
    exact ⟨_, rfl⟩
  obtain ⟨u, hu⟩ := hsome
  have hlt : gb < w0.heap.size := World.block_lt_of_cell? w0 _ hu
  have e1 : w.heap[gb]? = w0.heap[gb]? := g.block gb hlt (by simp)
  have hno : o gb = none := by
    cases e : o gb with
    | none => rfl
    | some t => have := ho gb (by rw [e]; simp); omega
  have e2 : w1.heap[gb]? = w.heap[gb]? := hc.block gb (Nat.lt_of_lt_of_le hlt g.size) hno
  rw [← h0]
  exact cell_of_same (e2.trans e1)
section
variable {w0 w w' : World} {B r jb : Nat} {o o' O O' : Own1} {S R : RD}
theorem rsize_le (h : RS w0 w r O R) (n : List UInt8) : (R.size n).1 ≤ 16777216 := by
  obtain ⟨A, N, c, l, h, hl⟩ := h
  unfold RD.size
  split
  · exact Nat.zero_le _
  · split
    · exact Nat.zero_le _
    · cases hf : R.find n with
      | none => exact Nat.zero_le _
      | some f =>
        have hm := (rfind_some hf).1
        rw [← hl] at hm
        obtain ⟨x, hx, rfl⟩ := List.mem_map.1 hm
        exact (h.ok x hx).small.2.1
theorem RS.own0 (h : RS w0 w r O R) : ∀ i, O i ≠ none → w0.heap.size ≤ i := fun i hi => by obtain ⟨A, N, c, l, h, -⟩ := h; exact (h.inb i hi).1
end
end Go.Proofs.YtipankjajdpiiaaGreat

/- A bit turned, and what is loose: small, and the same for the document: plain. -/
namespace Go.Proofs.YtipankjajdpiiaaGreat
open Go.RowKit
set_option maxRecDepth 100000

theorem Sm.flipS {S : Dk} {a b : Nat} (h : Sm S a b) (n : List UInt8) (p : Nat) (u : UInt8) : Sm (S.flip n p u) a b := by
  refine ⟨?_, h.nl, fun s k hl => ?_⟩
  · show (setF S.fs n _).length ≤ a
    rw [setF_len]; exact h.fl
  · obtain ⟨f, h1, h2, h3⟩ := h.li s k hl
    have e : (S.flip n p u).find s = (S.find s).map fun f => if f.name = n then { f with now := flipL f.now p u, lasts := flipL f.lasts p u } else f := find_setF S.fs n s fun f => rfl
    rw [e, h1]
    refine ⟨_, rfl, h2, ?_⟩
    dsimp only
    split
    · show 64 * k < ((flipL f.now p u).length : Int)
      rw [flipL_len]; exact h3
    · exact h3
theorem Sm.flipA {S : Dk} {a b : Nat} (h : Sm S a b) (n : List UInt8) (k : Int) (u : UInt8) : Sm (S.flipA n k u).1 a b := by
  unfold Dk.flipA
  split
  · exact h
  · split
    · exact h
    · cases S.find n with
      | none => exact h
      | some f =>
        dsimp only
        split
        · exact h
        · exact h.flipS n k.toNat u
section
variable {S : Dk} {R : RD} {a b : Nat} {n : List UInt8}
theorem sim_flipA (h : Sim S R) (hs : Sm S a b) (n : List UInt8) (k : Int) (u : UInt8) : (R.flipA n k u).2 = (S.flipA n k u).2 ∧ Sim (S.flipA n k u).1 (R.flipA n k u).1 := by
  have hfi := h.find n
  unfold RD.flipA Dk.flipA
  rw [h.off]
  split
  · exact ⟨rfl, h⟩
  · split
    · exact ⟨rfl, h⟩
    · rw [hfi]
      cases R.find n with
      | none => exact ⟨rfl, h⟩
      | some f =>
        dsimp only [Option.map_some]
        rw [show f.fi.now = f.now from rfl]
        split
        · exact ⟨rfl, h⟩
        · exact ⟨rfl, sim_flip h n k.toNat u (hs.flipS n k.toNat u).li⟩
end
theorem Sim.up_ {S : Dk} {R : RD} (h : Sim S R) : Up R := h.up
theorem Sim.lo {S : Dk} {R : RD} (h : Sim S R) : ∀ f ∈ R.L, ∀ k : Nat, f.loose.getD k false = true → 64 * k < f.now.length := fun f hf k hk => by
  rw [h.loose f hf k] at hk
  obtain ⟨g, hg, _, h2⟩ := h.li f.n k hk
  have hp : f.fi ∈ S.fs := h.fs.mem_iff.1 (List.mem_map.2 ⟨f, hf, rfl⟩)
  have hn : (S.fs.map Fi.name).Nodup := (h.fs.map Fi.name).nodup_iff.1 (by rw [map_fi_name]; exact h.nodup)
  have : S.find f.n = some f.fi := find_mem hn hp
  rw [this] at hg
  cases hg
  have h3 : f.fi.now = f.now := rfl
  rw [h3] at h2
  omega
theorem loose_okK {w : World} {B d : Nat} {o : Own1} {S : Dk} {c : Con} (h : DI w B o d S c) (hli : LooseIn S) : ∀ s k, S.loose s k = true → okK s k := fun s k hl => by
  obtain ⟨f, hf, h0, h1⟩ := hli s k hl
  obtain ⟨hm, hn⟩ := find_some hf
  have hsm := (h.file f hm).small
  refine ⟨by rw [← hn]; unfold maxLen; omega, ?_⟩
  have hb := hsm.2.1
  exact WalkArith.wf_i64 (by omega)
theorem Sm.remove {S : Dk} {a b : Nat} (h : Sm S a b) (n : List UInt8) : Sm (S.remove n).1 a b := by
  have hb := h.begin
  unfold Dk.remove
  split
  · exact hb
  · split
    · exact hb
    · cases S.find n with
      | none => exact hb
      | some f =>
        refine ⟨?_, hb.nl, fun s k hl => ?_⟩
        · show (butF S.begin.fs n).length ≤ a
          exact Nat.le_trans (List.length_filter_le _ _) hb.fl
        · have hl2 : (S.begin.loose s k && !(s == n)) = true := hl
          simp at hl2
          obtain ⟨f, h1, h2⟩ := hb.li s k hl2.1
          refine ⟨f, ?_, h2⟩
          show (butF S.begin.fs n).find? _ = _
          rw [butF_find, if_neg hl2.2]
          exact h1
end Go.Proofs.YtipankjajdpiiaaGreat
