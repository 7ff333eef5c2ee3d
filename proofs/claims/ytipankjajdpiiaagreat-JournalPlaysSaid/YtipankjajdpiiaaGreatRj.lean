/-
  The document's disk: Files; On where the power is on.
-/
import Derived.Test.YtipankjajdpiiaaGreatRo
import Derived.Test.YtipankjajdpiiaaGreatSf
import Derived.Test.YtipankjajdpiiaaGreatJh
namespace Go.Proofs.YtipankjajdpiiaaGreat
open Go.RowKit Go.Maps
set_option maxRecDepth 100000
set_option maxHeartbeats 400000

/-- append(v, f) in a drawn region. -/
theorem step_app1F {ops : Array Oper} {q : Oper} {a : Act} {w : World} {K : Act → World → Prop} {Q : Exit → Act → World → Prop} {E : Prop} (r : Fl) (h1c : r.s.oneCell' = true) (hg : q.guard = none) (s0 x0 : Operand) (ho : q.op = .call { callee := .builtin .append, args := #[s0, x0], argTypes := #[49, 49] })
    {B : Nat} {v x : Value} {l : List Fl} (hs : a.eval s0 = v) (hown : OwnF w B v l) (hr : El w v r) (hx : a.eval x0 = x) (hrd : Rd w 2 x 1 r.enc) (hn : l.length ≤ 1000000000) (hB : B ≤ w.heap.size)
    (hK : ∀ v' w', OwnF w' B v' (l ++ [r]) → w.grownBy w' v.ownBlock → K (a.put q.dst v') w') : if Region.wanted q (yielded ops a.tmps) = true then Oper.wp Tryz.prog q a w K Q else E := by
  have hw : Region.wanted q (yielded ops a.tmps) = true := by simp [Region.wanted, hg]
  rw [if_pos hw]
  obtain ⟨v', w', hrun, h2, h3⟩ := run_appS (P := Tryz.prog) w B 49 q.type 91 _ 2 40 Tryz.underlying49 Tryz.infoFl rfl (by omega) v l.length (l.flatMap Fl.enc) hown.1 x 1 r.enc hrd (by intro u hu; simp [Fl.enc] at hu; rcases hu with rfl | rfl; rfl; exact h1c) (by unfold maxLen; omega) (by omega) hB
  unfold Oper.wp execOp
  simp only [ho, resolve, invoke, builtin, Sem.run_bind, Sem.run_pure, Result.andThen_ok, List.map_toArray, List.map_cons, List.map_nil, hs, hx, hrun]
  have h4 : w.grownBy w' v.ownBlock ∧ (v'.ownBlock = v.ownBlock ∨ ∃ k, v'.ownBlock = some k ∧ w.heap.size ≤ k) := by
    rcases h3 with ⟨A, c, e1, e2, h5⟩ | ⟨k, e1, h5, h6⟩
    · exact ⟨h5, .inl (by rw [e1, e2]; unfold Value.ownBlock; cases A <;> rfl)⟩
    · exact ⟨gr_of_none h6, .inr ⟨k, e1, h5⟩⟩
  exact hK _ _ (hown.app (by unfold OwnG; rw [List.length_append, List.flatMap_append]; simpa using h2) h4.1 h4.2 hr) h4.1
section
variable {w0 w w' wb wx wy : World} {r N c q a i : Nat} {O O1 : Own1} {A : Option Addr} {l : List Rm} {off : Bool} {R : RD}
theorem ron_alive (h : RS w0 w r O R) (hoff : R.off = false) (kv : Value) : Calls Tryz.prog 35 #[.pointer (some ⟨r, 0, none⟩), kv] w fun e w' => e = .returned (.int .i64 14) ∧ w = w' := by
  obtain ⟨A, N, c, l, h, hl⟩ := h
  have b3 : w.cell? ⟨r, 3, none⟩ = some (.bool false) := by rw [← hoff]; exact h.self.cell 3
  clear h hl
  go_enter Tryz.func35, Tryz.ntmps35
  go_wp2_with fail
  go_ret
  exact ⟨rfl, rfl⟩
set_option maxHeartbeats 8000000 in
theorem rfiles_any (h : RS w0 w r O R) : Calls Tryz.prog 16 #[.pointer (some ⟨r, 0, none⟩)] w fun e w' => ∃ v l, e = .returned v ∧ OwnF w' w.heap.size v l ∧ l.map (fun x => (x.n, x.b)) = R.L.map (fun f => (f.n, f.now)) ∧ w.grownBy w' none := by
  obtain ⟨A, N, c, l, h, hl⟩ := h
  have hlimN := h.lim.2.2
  have HLN : Hid (l.length = N) := h.len
  have H := Lib.hid h
  have HL := Lib.hid hl
  clear h hl
  go_enter Tryz.func16, Tryz.ntmps16
  go_wp2_with fail
  go_loopw [3, 4] (fun v iv wr => ∃ (k : Nat) (Av : Option Addr) (cv : Nat) (m : List Fl), k ≤ N ∧ iv = .int .i64 (k : Nat) ∧ v = .slice Av k cv ∧ m.length = k ∧ OwnF wr w.heap.size (.slice Av k cv) m ∧ m.map (fun x => (x.n, x.b)) = (l.take k).map (fun x => (x.n, x.now)) ∧ w.grownBy wr none) (fun _ iv _ => N - (intOf iv).toNat)
  case atStart => exact ⟨0, none, 0, [], Nat.zero_le _, rfl, rfl, rfl, OwnF.nil _ _, rfl, gr_refl _ _⟩
  case round =>
    obtain ⟨k, Av, cv, m, hk, rfl, rfl, hml, ho, hm, hg⟩ := hrel
    rename World => wo
    have HO := Lib.hid ho
    have HM := Lib.hid hm
    have HG := Lib.hid hg
    have HML := Lib.hid hml
    have s0 : wo.cell? ⟨r, 0, none⟩ = some (.slice A N c) := (H.out.ext hg).self.cell 0
    clear ho hm hg hml
    by_cases hlt : k < N
    · have hi : k < l.length := by rw [HLN.out]; exact hlt
      obtain ⟨gl, offl, rfl, -, -, -, -, -, -⟩ := H.out.at_ hlt
      have HCELL : Hid (∀ wx, w.grownBy wx none → wx.cell? ⟨r, 0, none⟩ = some (.slice (some ⟨gl, offl, none⟩) N c) ∧ wx.cell? ⟨gl, offl + k * 4, none⟩ = some (.string ⟨l[k].n.toArray⟩) ∧ wx.cell? ⟨gl, offl + k * 4 + 1, none⟩ = some l[k].nv) := fun wx g => ⟨(H.out.ext g).self.cell 0, ((H.out.ext g).cellsA hlt hi).1, ((H.out.ext g).cellsA hlt hi).2.1⟩
      have hok := (H.out.ext HG.out).ok l[k] (List.getElem_mem hi)
      obtain ⟨_, _, _, _, _, hgr, hgO, hNc⟩ := H.out.cellsA hlt hi
      obtain ⟨X, hX⟩ : ∃ X, X = l[k] := ⟨_, rfl⟩
      rw [← hX] at HCELL hok
      obtain ⟨A1, d1, e1⟩ := RdB.form hok.now
      have hr1 := hok.now
      rw [e1] at hr1 HCELL
      obtain ⟨M1, hM1⟩ : ∃ M, M = X.now.length := ⟨_, rfl⟩
      have hsm := hok.small.2.1
      rw [← hM1] at hr1 HCELL hsm
      have HR1 := Lib.hid hr1
      have HX := Lib.hid hX
      have HM1 := Lib.hid hM1
      obtain ⟨nm, hnm⟩ : ∃ nm, nm = X.n := ⟨_, rfl⟩
      rw [← hnm] at HCELL
      have HNM := Lib.hid hnm
      have hk0 : (0 : Int) ≤ (k : Int) := by omega
      have hk1 : (k : Int) < (N : Int) := by omega
      obtain ⟨c0, c1, c2⟩ := HCELL.out wo HG.out
      have HFE : Hid (∀ w6 A6 c6, wo.grownBy w6 none → OwnB w6 wo.heap.size (.slice A6 M1 c6) X.now → ∀ C, OwnF (w6.alloc C) w.heap.size (.slice Av k cv) m ∧ El (w6.alloc C) (.slice Av k cv) ⟨nm, X.now, .slice A6 M1 c6⟩) := fun w6 A6 c6 g o C => by
        refine ⟨(HO.out.ext g).ext (gr_alloc _ _ none), Own.rd (o.ext (gr_alloc _ _ none)), fun h0 q e => ?_⟩
        have h1 := own_size o h0 q e
        have h2 := Own.lt o q e
        refine ⟨by rw [World.size_alloc]; omega, fun e2 => ?_⟩
        have h3 := HO.out.2.1 q e2
        omega
      clear hok e1 hr1 hM1 hX hnm s0
      go_wp2_with fail
      go_region_held3 (fun w' => w'.cell? ⟨r, 0, none⟩ = some (.slice (some ⟨gl, offl, none⟩) N c) ∧ w'.cell? ⟨gl, offl + k * 4, none⟩ = some (.string ⟨nm.toArray⟩) ∧ w'.cell? ⟨gl, offl + k * 4 + 1, none⟩ = some (.slice A1 M1 d1)) (first | exact k8 | exact k6 | go_keep) (first
        | (refine step_appB1 (B := wo.heap.size) (by rfl) (l := []) (m := X.now) (.tmp 25) (.tmp 33) (by rfl) (by rfl) (own_atB0 _ _ (Nat.le_refl _)) (by rfl) (HR1.out.ext (gr_none (gr_alloc _ _ none) (gr_drew _ none))) (by rw [← HM1.out]; show 0 + M1 ≤ _; omega) (by show _ ≤ (wo.alloc _).heap.size; rw [World.size_alloc]; omega) ?_; rintro v6 w6 o6 g6; obtain ⟨A6, c6, ev6⟩ := RdB.form (OwnB.rd o6); rw [List.nil_append, ← HM1.out] at ev6; subst ev6; rw [List.nil_append] at o6; have g36 : wo.grownBy w6 none := gr_trans (gr_none (gr_alloc _ _ none) (gr_drew _ none)) g6 (.inr fun q e => by cases e; exact Nat.le_refl _); have k6 := HCELL.out w6 (gr_none HG.out g36); have O6 := Lib.hid o6; have G36 := Lib.hid g36; clear o6 g6 g36)
        | (refine step_app1F (B := w.heap.size) (l := m) ⟨nm, X.now, .slice A6 M1 c6⟩ rfl (by rfl) (.tmp 16) (.tmp 36) (by rfl) (by rfl) (HFE.out _ _ _ G36.out O6.out _).1 (HFE.out _ _ _ G36.out O6.out _).2 (by rfl) (rd_lit _ 2 1 1 _ _ rfl (Nat.le_refl _) (by unfold maxLen; omega)) (by rw [HML.out]; omega) (by rw [World.size_alloc]; have := HG.out.size; have := G36.out.size; omega) ?_; rintro v8 w8 o8 g8; obtain ⟨A8, c8, ev8⟩ := OwnF.form o8; rw [List.length_append, HML.out] at ev8; subst ev8; have G8 : Hid (w.grownBy w8 none) := gr_trans (gr_none HG.out (gr_none G36.out (gr_alloc _ _ none))) g8 (.inr fun q e => Own.lt HO.out.1 q e); have k8 := HCELL.out w8 G8.out; have O8 := Lib.hid o8; clear o8 g8))
      have HM8 : Hid ((m ++ [(⟨nm, X.now, .slice A6 M1 c6⟩ : Fl)]).map (fun x => (x.n, x.b)) = (l.take (k + 1)).map (fun x => (x.n, x.now))) := by
        show _ = _
        rw [List.map_append, HM.out, List.take_succ_eq_append_getElem hi, List.map_append, ← HX.out, HNM.out]; rfl
      have HL8 : Hid ((m ++ [(⟨nm, X.now, .slice A6 M1 c6⟩ : Fl)]).length = k + 1) := by show _ = _; rw [List.length_append, HML.out]; rfl
      clear k8 k6
      go_wp2_with fail
      go_roundw
      case rel => exact ⟨k + 1, A8, c8, _, by omega, by go_num, rfl, HL8.out, O8.out, HM8.out, G8.out⟩
      case measure => simp [intOf] <;> omega
    · obtain rfl : k = N := by omega
      have hli : ¬ (k : Int) < (k : Int) := by omega
      have HFIN : Hid (m.map (fun x => (x.n, x.b)) = R.L.map (fun f => (f.n, f.now))) := by
        show _ = _
        rw [HM.out, ← HL.out, List.take_of_length_le (by rw [HLN.out]; exact Nat.le_refl _), List.map_map]; rfl
      go_wp2_with fail
      go_ret
      exact ⟨_, rfl, m, HO.out, HFIN.out, HG.out⟩
end
end Go.Proofs.YtipankjajdpiiaaGreat

/- The document's journal: Open (printed by wip tools gen_rj.py). -/
namespace Go.Proofs.YtipankjajdpiiaaGreat
open Go.RowKit Go.Maps
set_option maxRecDepth 100000
set_option maxHeartbeats 400000

def RD.jsync (S : RD) (l : List Rc) : RD × Option (List Rc) × Nat := if (S.sync jn).2 = 0 then ((S.sync jn).1, some l, 0) else ((S.sync jn).1, none, (S.sync jn).2)
def RD.jcut (S : RD) (n : Nat) (l : List Rc) : RD × Option (List Rc) × Nat :=
  if 64 * l.length < n then (if (S.cut jn ((64 * l.length : Nat) : Int)).2 = 0 then (S.cut jn ((64 * l.length : Nat) : Int)).1.jsync l else ((S.cut jn ((64 * l.length : Nat) : Int)).1, none, (S.cut jn ((64 * l.length : Nat) : Int)).2)) else S.jsync l
def RD.jrest (S : RD) (n : Nat) : RD × Option (List Rc) × Nat := if (S.read jn 0 (n : Int)).2 = 0 then S.jcut n (readJ (S.read jn 0 (n : Int)).1) else (S, none, (S.read jn 0 (n : Int)).2)
def RD.jmade (S : RD) : RD × Option (List Rc) × Nat := if (S.size jn).2 = 0 then S.jrest (S.size jn).1 else (S, none, (S.size jn).2)
def RD.jopen (S : RD) : RD × Option (List Rc) × Nat :=
  if (S.size jn).2 = 3 then (if (S.create jn).2 = 0 then (S.create jn).1.jmade else ((S.create jn).1, none, (S.create jn).2)) else S.jmade
/-- its names rise. -/
def Up (R : RD) : Prop := R.L.Pairwise fun x y => bl x.n y.n = true
theorem Up.nodup {R : RD} (h : Up R) : (R.L.map Rf.n).Nodup := up_nodup h
theorem Up.begin {R : RD} (h : Up R) : Up R.begin := by unfold Up at *; rw [beginL]; exact h
theorem Up.setR {R R' : RD} (h : Up R) {n : List UInt8} {g : Rf → Rf} (hg : ∀ f, (g f).n = f.n) (e : R'.L = setR R.L n g) : Up R' := by
  unfold Up at *
  rw [e]
  unfold Go.Proofs.YtipankjajdpiiaaGreat.setR
  rw [List.pairwise_map]
  have hn : ∀ f : Rf, (if f.n = n then g f else f).n = f.n := fun f => by split; exact hg f; rfl
  exact h.imp fun {x y} hxy => by rw [hn, hn]; exact hxy
theorem Up.create {R : RD} (h : Up R) (n : List UInt8) : Up (R.create n).1 := by
  unfold RD.create
  split
  · exact h.begin
  · split
    · exact h.begin
    · split
      · exact h.begin
      · next h3 => exact putR_up (f := ⟨n, [], [], []⟩) h (find_noneR (by simpa using h3))
theorem Up.sync {R : RD} (h : Up R) (n : List UInt8) : Up (R.sync n).1 := by
  unfold RD.sync
  split
  · exact h.begin
  · split
    · exact h.begin
    · cases R.find n with
      | none => exact h.begin
      | some f => exact h.begin.setR (n := n) (g := fun f => { f with lasts := f.now, loose := [] }) (fun _ => rfl) rfl
theorem Up.cut {R : RD} (h : Up R) (n : List UInt8) (k : Int) : Up (R.cut n k).1 := by
  unfold RD.cut
  split
  · exact h.begin
  · split
    · exact h.begin
    · cases R.find n with
      | none => exact h.begin
      | some f =>
        dsimp only
        split
        · exact h.begin
        · exact h.begin.setR (n := n) (g := fun f => { f with now := f.now.take k.toNat, lasts := f.lasts.take k.toNat, loose := f.loose.take (sectors k.toNat) }) (fun _ => rfl) rfl
theorem Up.write {R : RD} (h : Up R) (n : List UInt8) (k : Int) (b : List UInt8) : Up (R.write n k b).1 := by
  unfold RD.write
  split
  · exact h.begin
  · split
    · exact h.begin
    · cases R.find n with
      | none => exact h.begin
      | some f =>
        dsimp only
        split
        · exact h.begin
        · split
          · exact h.begin
          · split
            · exact h.begin
            · exact h.begin.setR (n := n) (g := fun f => { f with now := overZ f.now k.toNat b, loose := hitL f.loose (max f.now.length (k.toNat + b.length)) k.toNat b.length }) (fun _ => rfl) rfl
structure RJR (w : World) (B : Nat) (o : Own1) (jb r : Nat) (v : Value) (l : List Rc) : Prop where
  box : Blk w jb 89 #[.pointer (some ⟨r, 0, none⟩), v]
  own : OwnR w B v l
  free : o jb = none ∧ ∀ k, blk v = some k → o k = none
  jB : B ≤ jb
  sep : ∀ k, blk v = some k → k ≠ jb
section
variable {w0 w w' : World} {B r jb : Nat} {o o' O O' : Own1} {S R : RD} {v : Value} {l : List Rc}
theorem RJR.ch (h : RJR w B o jb r v l) (hc : Ch o w o' w') : RJR w' B o' jb r v l :=
  ⟨hc.blk h.box h.free.1, hc.own h.own (by omega) h.free.2, ⟨hc.free jb h.box.lt h.free.1, fun k hk => hc.free k (Own.blk_lt h.own (by omega) hk).2 (h.free.2 k hk)⟩, h.jB, h.sep⟩
theorem RJR.low {B' : Nat} (h : RJR w B o jb r v l) (hB : B' ≤ B) : RJR w B' o jb r v l := ⟨h.box, Own.mono h.own hB, h.free, Nat.le_trans hB h.jB, h.sep⟩
theorem rsize_le (h : RS w0 w r O R) (n : List UInt8) : (R.size n).1 ≤ 16777216 := by
  obtain ⟨A, N, c, l, h, hl⟩ := h
  unfold RD.size
  split
  · exact Nat.zero_le _
  · split
    · exact Nat.zero_le _
    · cases hf : R.find n with
      | none => exact Nat.zero_le _
      | some f =>
        have hm := (rfind_some hf).1
        rw [← hl] at hm
        obtain ⟨x, hx, rfl⟩ := List.mem_map.1 hm
        exact (h.ok x hx).small.2.1
theorem rread_le (h : RS w0 w r O R) (n : List UInt8) (k j : Int) : (R.read n k j).1.length ≤ 16777216 := by
  obtain ⟨A, N, c, l, h, hl⟩ := h
  unfold RD.read
  split
  · exact Nat.zero_le _
  · split
    · exact Nat.zero_le _
    · cases hf : R.find n with
      | none => exact Nat.zero_le _
      | some f =>
        have hm := (rfind_some hf).1
        rw [← hl] at hm
        obtain ⟨x, hx, rfl⟩ := List.mem_map.1 hm
        have h5 := (h.ok x hx).small.2.1
        show ((x.now.drop _).take _).length ≤ _
        rw [List.length_take, List.length_drop]; omega
def RJOpenOut (w0 : World) (O : Own1) (w : World) (r : Nat) (X : RD × Option (List Rc) × Nat) (e : Ending) (w' : World) : Prop :=
  ∃ O', RS w0 w' r O' X.1 ∧ Ch O w O' w' ∧ ((X.2.1 = none ∧ e = .returned (.tuple #[.pointer none, .int .i64 X.2.2])) ∨ (∃ l jb v, X.2.1 = some l ∧ X.2.2 = 0 ∧ e = .returned (.tuple #[.pointer (some ⟨jb, 0, none⟩), .int .i64 0]) ∧ RJR w' w.heap.size O' jb r v l))
set_option maxHeartbeats 4000000 in
theorem rjopen_gen (h : RS w0 w r O S) (hup : Up S) (hfl : S.L.length ≤ 900000) : Calls Tryz.prog 31 #[.pointer (some ⟨r, 0, none⟩)] w (RJOpenOut w0 O w r S.jopen) := by
  have hs := rsize_any h jn (by simp)
  have hsl := rsize_le h jn
  have hcr := fun wx (g : w.grownBy wx none) => rcreate_any (h.ext g) jn (by simp) hfl
  have hX : S.jopen = if (S.size jn).2 = 3 then (if (S.create jn).2 = 0 then (S.create jn).1.jmade else ((S.create jn).1, none, (S.create jn).2)) else (if (S.size jn).2 = 0 then S.jrest (S.size jn).1 else (S, none, (S.size jn).2)) := rfl
  have hu1 := hup.create jn
  obtain ⟨n, hn⟩ : ∃ n, n = (S.size jn).1 := ⟨_, rfl⟩
  obtain ⟨es, hes⟩ : ∃ es, es = (S.size jn).2 := ⟨_, rfl⟩
  obtain ⟨S1, hS1⟩ : ∃ S1, S1 = (S.create jn).1 := ⟨_, rfl⟩
  obtain ⟨ec, hec⟩ : ∃ ec, ec = (S.create jn).2 := ⟨_, rfl⟩
  rw [← hn, ← hes] at hs hX
  rw [← hn] at hsl
  rw [← hS1, ← hec] at hX hcr
  rw [← hS1] at hu1
  have HS := Lib.hid hs
  have HCR := Lib.hid hcr
  have HX := Lib.hid hX
  have H := Lib.hid h
  have HUP := Lib.hid hup
  have HU1 := Lib.hid hu1
  clear h hs hcr hX hn hes hS1 hec hup hu1
  go_enter Tryz.func31, Tryz.ntmps31
  go_wp2_with fail
  refine HS.out.mono ?_
  rintro e w1 ⟨rfl, g1⟩
  have G1 := Lib.hid g1
  clear g1
  by_cases h3 : es = 3
  · have h3e : ((es : Int) == 3) = true := by rw [h3]; rfl
    by_cases hc0 : ec = 0
    · have HJ0 : Hid (S.jopen = S1.jmade) := by show _ = _; rw [HX.out, if_pos h3, if_pos hc0]
      have hc0e : ((ec : Int) == 0) = true := by rw [hc0]; rfl
      clear h3 hc0 hsl
      go_wp2_with fail
      refine (HCR.out _ G1.out).mono ?_
      rintro e wc ⟨rfl, oc, hdc, hcc⟩
      have hss := rsize_any hdc jn (by simp)
      have hsl := rsize_le hdc jn
      have hX2 : S1.jmade = if (S1.size jn).2 = 0 then S1.jrest (S1.size jn).1 else (S1, none, (S1.size jn).2) := rfl
      obtain ⟨n2, hn2⟩ : ∃ n2, n2 = (S1.size jn).1 := ⟨_, rfl⟩
      obtain ⟨e2, he2⟩ : ∃ e2, e2 = (S1.size jn).2 := ⟨_, rfl⟩
      rw [← hn2, ← he2] at hss hX2
      rw [← hn2] at hsl
      have HSS := Lib.hid hss
      have HX2 := Lib.hid hX2
      have HD0 := Lib.hid hdc
      have HC0 : Hid (Ch O w oc wc) := (Ch.ext G1.out).trans hcc
      clear hdc hcc hss hX2 hn2 he2
      go_wp2_with fail
      refine HSS.out.mono ?_
      rintro e wd ⟨rfl, gd⟩
      have HD : Hid (RS w0 wd r oc S1) := HD0.out.ext gd
      have HC : Hid (Ch O w oc wd) := HC0.out.trans (Ch.ext gd)
      clear gd
      by_cases h20 : e2 = 0
      · have HJ : Hid (S.jopen = S1.jrest n2) := by show _ = _; rw [HJ0.out, HX2.out, if_pos h20]
        have h20e : ((e2 : Int) == 0) = true := by rw [h20]; rfl
        clear h20
        have hrd := rread_any HD.out jn (by simp) 0 (n2 : Int) (by omega) (by omega)
        have hrl := rread_le HD.out jn 0 (n2 : Int)
        have hY : S1.jrest n2 = if (S1.read jn 0 (n2 : Int)).2 = 0 then S1.jcut n2 (readJ (S1.read jn 0 (n2 : Int)).1) else (S1, none, (S1.read jn 0 (n2 : Int)).2) := rfl
        obtain ⟨rb, hrb⟩ : ∃ rb, rb = (S1.read jn 0 (n2 : Int)).1 := ⟨_, rfl⟩
        obtain ⟨er, her⟩ : ∃ er, er = (S1.read jn 0 (n2 : Int)).2 := ⟨_, rfl⟩
        rw [← hrb, ← her] at hrd hY
        rw [← hrb] at hrl
        have HRD := Lib.hid hrd
        have HY := Lib.hid hY
        clear hrd hY hrb her
        go_wp2_with fail
        refine HRD.out.mono ?_
        rintro e w2 ⟨⟨v2, rfl, o2⟩, g2⟩
        have G2 := Lib.hid g2
        have HO2 := Lib.hid o2
        clear o2 g2
        by_cases hr0 : er = 0
        · have hr0e : ((er : Int) == 0) = true := by rw [hr0]; rfl
          have HY2 : Hid (S.jopen = S1.jcut n2 (readJ rb)) := by show _ = _; rw [HJ.out, HY.out, if_pos hr0]
          obtain ⟨l, hl⟩ : ∃ l, l = readJ rb := ⟨_, rfl⟩
          have hlr : 64 * l.length ≤ 16777216 := by rw [hl]; exact Nat.le_trans (readJ_le rb) hrl
          rw [← hl] at HY2
          have HL := Lib.hid hl
          clear hl hr0
          go_wp2_with fail
          refine (jrread_any v2 rb _ HO2.out.rd (by omega)).mono ?_
          rintro e w3 ⟨⟨v3, rfl, o3⟩, g3⟩
          rw [← HL.out] at o3
          have G3 := Lib.hid (gr_none G2.out g3)
          obtain ⟨A3, c3, rfl⟩ := o3.rd.form
          have HO3B := Lib.hid (Own.mono o3 G2.out.size)
          clear o3 g3
          have hfr2 : Hid (∀ k, wd.heap.size ≤ k → oc k = none) := fun k hk => HD.out.fresh hk
          have hkr : Hid (∀ k, blk (Value.slice A3 l.length c3) = some k → k < w3.heap.size ∧ oc k = none) := fun k hk => ⟨(Own.blk_lt HO3B.out (by omega) hk).2, hfr2.out k (Own.blk_lt HO3B.out (by omega) hk).1⟩
          have HDA := Lib.hid (HD.out.ext G3.out)
          have HCA : Hid (Ch O w oc w3) := HC.out.trans (Ch.ext G3.out)
          have HBS : Hid (w.heap.size ≤ wd.heap.size) := HC.out.size
          have hZ : S1.jcut n2 l = if 64 * l.length < n2 then (if (S1.cut jn ((64 * l.length : Nat) : Int)).2 = 0 then (S1.cut jn ((64 * l.length : Nat) : Int)).1.jsync l else ((S1.cut jn ((64 * l.length : Nat) : Int)).1, none, (S1.cut jn ((64 * l.length : Nat) : Int)).2)) else S1.jsync l := rfl
          by_cases hlt : 64 * l.length < n2
          · have hlti : (64 : Int) * (l.length : Int) < (n2 : Int) := by omega
            have hcu := rcut_any HDA.out HU1.out.nodup jn (by simp) ((64 * l.length : Nat) : Int) (by omega)
            obtain ⟨S2, hS2⟩ : ∃ S2, S2 = (S1.cut jn ((64 * l.length : Nat) : Int)).1 := ⟨_, rfl⟩
            obtain ⟨e3, he3⟩ : ∃ e3, e3 = (S1.cut jn ((64 * l.length : Nat) : Int)).2 := ⟨_, rfl⟩
            have HU3 : Hid (Up S2) := by rw [hS2]; exact HU1.out.cut jn _
            rw [if_pos hlt, ← hS2, ← he3] at hZ
            rw [← hS2, ← he3, show ((64 * l.length : Nat) : Int) = (64 : Int) * (l.length : Int) from by omega] at hcu
            have HCU := Lib.hid hcu
            have HZ := Lib.hid hZ
            clear hcu hZ hS2 he3 hlt
            go_wp2_with fail
            refine HCU.out.mono ?_
            rintro e w4 ⟨rfl, o4, h4, ch4⟩
            have H4 := Lib.hid h4
            have C4 : Hid (Ch O w o4 w4) := HCA.out.trans ch4
            have HV4 : Hid (OwnR w4 wd.heap.size (.slice A3 l.length c3) l ∧ ∀ k, blk (Value.slice A3 l.length c3) = some k → k < w4.heap.size ∧ o4 k = none) := ⟨ch4.own HO3B.out (by omega) (fun k hk => (hkr.out k hk).2), fun k hk => ⟨Nat.lt_of_lt_of_le (hkr.out k hk).1 ch4.size, ch4.free k (hkr.out k hk).1 (hkr.out k hk).2⟩⟩
            clear h4 ch4
            by_cases hz : e3 = 0
            · have hze : ((e3 : Int) == 0) = true := by rw [hz]; rfl
              have HZ2 : Hid (S.jopen = S2.jsync l) := by show _ = _; rw [HY2.out, HZ.out, if_pos hz]
              clear hz
              have hsy := rsync_any H4.out HU3.out.nodup jn (by simp)
              have hU : S2.jsync l = if (S2.sync jn).2 = 0 then ((S2.sync jn).1, some l, 0) else ((S2.sync jn).1, none, (S2.sync jn).2) := rfl
              obtain ⟨S5, hS5⟩ : ∃ S5, S5 = (S2.sync jn).1 := ⟨_, rfl⟩
              obtain ⟨e5, he5⟩ : ∃ e5, e5 = (S2.sync jn).2 := ⟨_, rfl⟩
              rw [← hS5, ← he5] at hsy hU
              have HSY := Lib.hid hsy
              have HU := Lib.hid hU
              clear hsy hU hS5 he5
              go_wp2_with fail
              refine HSY.out.mono ?_
              rintro e w5 ⟨rfl, o5, h5, ch5⟩
              have H5 := Lib.hid h5
              have C5 : Hid (Ch O w o5 w5) := C4.out.trans ch5
              have HV5 : Hid (OwnR w5 wd.heap.size (.slice A3 l.length c3) l ∧ ∀ k, blk (Value.slice A3 l.length c3) = some k → k < w5.heap.size ∧ o5 k = none) := ⟨ch5.own HV4.out.1 (by omega) (fun k hk => (HV4.out.2 k hk).2), fun k hk => ⟨Nat.lt_of_lt_of_le (HV4.out.2 k hk).1 ch5.size, ch5.free k (HV4.out.2 k hk).1 (HV4.out.2 k hk).2⟩⟩
              have HSW : Hid (w.heap.size ≤ w5.heap.size) := C5.out.size
              clear h5 ch5
              by_cases hz5 : e5 = 0
              · have hz5e : ((e5 : Int) == 0) = true := by rw [hz5]; rfl
                have HU2 : Hid (S.jopen = (S5, some l, 0)) := by show _ = _; rw [HZ2.out, HU.out, if_pos hz5]
                clear hz5
                have HBX := Lib.hid (Blk.new w5 89 #[.pointer (some ⟨r, 0, none⟩), .slice A3 l.length c3])
                have GA := Lib.hid (gr_alloc w5 (.cells #[.pointer (some ⟨r, 0, none⟩), .slice A3 l.length c3] 89) none)
                go_wp2_with fail
                go_ret2
                rw [HU2.out]
                exact ⟨o5, H5.out.ext GA.out, C5.out.trans (Ch.ext GA.out), .inr ⟨l, _, _, rfl, rfl, rfl, HBX.out, Own.mono (HV5.out.1.ext GA.out) HBS.out, ⟨H5.out.fresh (Nat.le_refl _), fun k hk => (HV5.out.2 k hk).2⟩, HSW.out, fun k hk => Nat.ne_of_lt (HV5.out.2 k hk).1⟩⟩
              · have hz5e : ((e5 : Int) == 0) = false := by rw [beq_eq_false_iff_ne]; omega
                have HU2 : Hid (S.jopen = (S5, none, e5)) := by show _ = _; rw [HZ2.out, HU.out, if_neg hz5]
                clear hz5
                go_wp2_with fail
                go_ret2
                rw [HU2.out]
                exact ⟨o5, H5.out, C5.out, .inl ⟨rfl, rfl⟩⟩
            · have hze : ((e3 : Int) == 0) = false := by rw [beq_eq_false_iff_ne]; omega
              have HZ2 : Hid (S.jopen = (S2, none, e3)) := by show _ = _; rw [HY2.out, HZ.out, if_neg hz]
              clear hz
              go_wp2_with fail
              go_ret2
              rw [HZ2.out]
              exact ⟨o4, H4.out, C4.out, .inl ⟨rfl, rfl⟩⟩
          · have hlti : ¬ (64 : Int) * (l.length : Int) < (n2 : Int) := by omega
            have HZ2 : Hid (S.jopen = S1.jsync l) := by show _ = _; rw [HY2.out, hZ, if_neg hlt]
            have HV3 : Hid (OwnR w3 wd.heap.size (.slice A3 l.length c3) l ∧ ∀ k, blk (Value.slice A3 l.length c3) = some k → k < w3.heap.size ∧ oc k = none) := ⟨HO3B.out, hkr.out⟩
            clear hZ hlt
            have hsy := rsync_any HDA.out HU1.out.nodup jn (by simp)
            have hU : S1.jsync l = if (S1.sync jn).2 = 0 then ((S1.sync jn).1, some l, 0) else ((S1.sync jn).1, none, (S1.sync jn).2) := rfl
            obtain ⟨S5, hS5⟩ : ∃ S5, S5 = (S1.sync jn).1 := ⟨_, rfl⟩
            obtain ⟨e5, he5⟩ : ∃ e5, e5 = (S1.sync jn).2 := ⟨_, rfl⟩
            rw [← hS5, ← he5] at hsy hU
            have HSY := Lib.hid hsy
            have HU := Lib.hid hU
            clear hsy hU hS5 he5
            go_wp2_with fail
            refine HSY.out.mono ?_
            rintro e w5 ⟨rfl, o5, h5, ch5⟩
            have H5 := Lib.hid h5
            have C5 : Hid (Ch O w o5 w5) := HCA.out.trans ch5
            have HV5 : Hid (OwnR w5 wd.heap.size (.slice A3 l.length c3) l ∧ ∀ k, blk (Value.slice A3 l.length c3) = some k → k < w5.heap.size ∧ o5 k = none) := ⟨ch5.own HV3.out.1 (by omega) (fun k hk => (HV3.out.2 k hk).2), fun k hk => ⟨Nat.lt_of_lt_of_le (HV3.out.2 k hk).1 ch5.size, ch5.free k (HV3.out.2 k hk).1 (HV3.out.2 k hk).2⟩⟩
            have HSW : Hid (w.heap.size ≤ w5.heap.size) := C5.out.size
            clear h5 ch5
            by_cases hz5 : e5 = 0
            · have hz5e : ((e5 : Int) == 0) = true := by rw [hz5]; rfl
              have HU2 : Hid (S.jopen = (S5, some l, 0)) := by show _ = _; rw [HZ2.out, HU.out, if_pos hz5]
              clear hz5
              have HBX := Lib.hid (Blk.new w5 89 #[.pointer (some ⟨r, 0, none⟩), .slice A3 l.length c3])
              have GA := Lib.hid (gr_alloc w5 (.cells #[.pointer (some ⟨r, 0, none⟩), .slice A3 l.length c3] 89) none)
              go_wp2_with fail
              go_ret2
              rw [HU2.out]
              exact ⟨o5, H5.out.ext GA.out, C5.out.trans (Ch.ext GA.out), .inr ⟨l, _, _, rfl, rfl, rfl, HBX.out, Own.mono (HV5.out.1.ext GA.out) HBS.out, ⟨H5.out.fresh (Nat.le_refl _), fun k hk => (HV5.out.2 k hk).2⟩, HSW.out, fun k hk => Nat.ne_of_lt (HV5.out.2 k hk).1⟩⟩
            · have hz5e : ((e5 : Int) == 0) = false := by rw [beq_eq_false_iff_ne]; omega
              have HU2 : Hid (S.jopen = (S5, none, e5)) := by show _ = _; rw [HZ2.out, HU.out, if_neg hz5]
              clear hz5
              go_wp2_with fail
              go_ret2
              rw [HU2.out]
              exact ⟨o5, H5.out, C5.out, .inl ⟨rfl, rfl⟩⟩
        · have hr0e : ((er : Int) == 0) = false := by rw [beq_eq_false_iff_ne]; omega
          have HY2 : Hid (S.jopen = (S1, none, er)) := by show _ = _; rw [HJ.out, HY.out, if_neg hr0]
          clear hr0
          go_wp2_with fail
          go_ret2
          rw [HY2.out]
          exact ⟨oc, HD.out.ext G2.out, HC.out.trans (Ch.ext G2.out), .inl ⟨rfl, rfl⟩⟩
      · have HJ : Hid (S.jopen = (S1, none, e2)) := by show _ = _; rw [HJ0.out, HX2.out, if_neg h20]
        have h20e : ((e2 : Int) == 0) = false := by rw [beq_eq_false_iff_ne]; omega
        clear h20
        go_wp2_with fail
        go_ret2
        rw [HJ.out]
        exact ⟨oc, HD.out, HC.out, .inl ⟨rfl, rfl⟩⟩
    · have HJ : Hid (S.jopen = (S1, none, ec)) := by show _ = _; rw [HX.out, if_pos h3, if_neg hc0]
      have hc0e : ((ec : Int) == 0) = false := by rw [beq_eq_false_iff_ne]; omega
      clear h3 hc0
      go_wp2_with fail
      refine (HCR.out _ G1.out).mono ?_
      rintro e wc ⟨rfl, oc, hdc, hcc⟩
      have HD := Lib.hid hdc
      have HC : Hid (Ch O w oc wc) := (Ch.ext G1.out).trans hcc
      clear hdc hcc
      go_wp2_with fail
      go_ret2
      rw [HJ.out]
      exact ⟨oc, HD.out, HC.out, .inl ⟨rfl, rfl⟩⟩
  · have h3e : ((es : Int) == 3) = false := by rw [beq_eq_false_iff_ne]; omega
    by_cases h0 : es = 0
    · have HJ : Hid (S.jopen = S.jrest n) := by show _ = _; rw [HX.out, if_neg h3, if_pos h0]
      have h0e : ((es : Int) == 0) = true := by rw [h0]; rfl
      have HD : Hid (RS w0 w1 r O S) := H.out.ext G1.out
      have HC : Hid (Ch O w O w1) := Ch.ext G1.out
      clear h3 h0
      have hrd := rread_any HD.out jn (by simp) 0 (n : Int) (by omega) (by omega)
      have hrl := rread_le HD.out jn 0 (n : Int)
      have hY : S.jrest n = if (S.read jn 0 (n : Int)).2 = 0 then S.jcut n (readJ (S.read jn 0 (n : Int)).1) else (S, none, (S.read jn 0 (n : Int)).2) := rfl
      obtain ⟨rb, hrb⟩ : ∃ rb, rb = (S.read jn 0 (n : Int)).1 := ⟨_, rfl⟩
      obtain ⟨er, her⟩ : ∃ er, er = (S.read jn 0 (n : Int)).2 := ⟨_, rfl⟩
      rw [← hrb, ← her] at hrd hY
      rw [← hrb] at hrl
      have HRD := Lib.hid hrd
      have HY := Lib.hid hY
      clear hrd hY hrb her
      go_wp2_with fail
      refine HRD.out.mono ?_
      rintro e w2 ⟨⟨v2, rfl, o2⟩, g2⟩
      have G2 := Lib.hid g2
      have HO2 := Lib.hid o2
      clear o2 g2
      by_cases hr0 : er = 0
      · have hr0e : ((er : Int) == 0) = true := by rw [hr0]; rfl
        have HY2 : Hid (S.jopen = S.jcut n (readJ rb)) := by show _ = _; rw [HJ.out, HY.out, if_pos hr0]
        obtain ⟨l, hl⟩ : ∃ l, l = readJ rb := ⟨_, rfl⟩
        have hlr : 64 * l.length ≤ 16777216 := by rw [hl]; exact Nat.le_trans (readJ_le rb) hrl
        rw [← hl] at HY2
        have HL := Lib.hid hl
        clear hl hr0
        go_wp2_with fail
        refine (jrread_any v2 rb _ HO2.out.rd (by omega)).mono ?_
        rintro e w3 ⟨⟨v3, rfl, o3⟩, g3⟩
        rw [← HL.out] at o3
        have G3 := Lib.hid (gr_none G2.out g3)
        obtain ⟨A3, c3, rfl⟩ := o3.rd.form
        have HO3B := Lib.hid (Own.mono o3 G2.out.size)
        clear o3 g3
        have hfr2 : Hid (∀ k, w1.heap.size ≤ k → O k = none) := fun k hk => HD.out.fresh hk
        have hkr : Hid (∀ k, blk (Value.slice A3 l.length c3) = some k → k < w3.heap.size ∧ O k = none) := fun k hk => ⟨(Own.blk_lt HO3B.out (by omega) hk).2, hfr2.out k (Own.blk_lt HO3B.out (by omega) hk).1⟩
        have HDA := Lib.hid (HD.out.ext G3.out)
        have HCA : Hid (Ch O w O w3) := HC.out.trans (Ch.ext G3.out)
        have HBS : Hid (w.heap.size ≤ w1.heap.size) := HC.out.size
        have hZ : S.jcut n l = if 64 * l.length < n then (if (S.cut jn ((64 * l.length : Nat) : Int)).2 = 0 then (S.cut jn ((64 * l.length : Nat) : Int)).1.jsync l else ((S.cut jn ((64 * l.length : Nat) : Int)).1, none, (S.cut jn ((64 * l.length : Nat) : Int)).2)) else S.jsync l := rfl
        by_cases hlt : 64 * l.length < n
        · have hlti : (64 : Int) * (l.length : Int) < (n : Int) := by omega
          have hcu := rcut_any HDA.out HUP.out.nodup jn (by simp) ((64 * l.length : Nat) : Int) (by omega)
          obtain ⟨S2, hS2⟩ : ∃ S2, S2 = (S.cut jn ((64 * l.length : Nat) : Int)).1 := ⟨_, rfl⟩
          obtain ⟨e3, he3⟩ : ∃ e3, e3 = (S.cut jn ((64 * l.length : Nat) : Int)).2 := ⟨_, rfl⟩
          have HU3 : Hid (Up S2) := by rw [hS2]; exact HUP.out.cut jn _
          rw [if_pos hlt, ← hS2, ← he3] at hZ
          rw [← hS2, ← he3, show ((64 * l.length : Nat) : Int) = (64 : Int) * (l.length : Int) from by omega] at hcu
          have HCU := Lib.hid hcu
          have HZ := Lib.hid hZ
          clear hcu hZ hS2 he3 hlt
          go_wp2_with fail
          refine HCU.out.mono ?_
          rintro e w4 ⟨rfl, o4, h4, ch4⟩
          have H4 := Lib.hid h4
          have C4 : Hid (Ch O w o4 w4) := HCA.out.trans ch4
          have HV4 : Hid (OwnR w4 w1.heap.size (.slice A3 l.length c3) l ∧ ∀ k, blk (Value.slice A3 l.length c3) = some k → k < w4.heap.size ∧ o4 k = none) := ⟨ch4.own HO3B.out (by omega) (fun k hk => (hkr.out k hk).2), fun k hk => ⟨Nat.lt_of_lt_of_le (hkr.out k hk).1 ch4.size, ch4.free k (hkr.out k hk).1 (hkr.out k hk).2⟩⟩
          clear h4 ch4
          by_cases hz : e3 = 0
          · have hze : ((e3 : Int) == 0) = true := by rw [hz]; rfl
            have HZ2 : Hid (S.jopen = S2.jsync l) := by show _ = _; rw [HY2.out, HZ.out, if_pos hz]
            clear hz
            have hsy := rsync_any H4.out HU3.out.nodup jn (by simp)
            have hU : S2.jsync l = if (S2.sync jn).2 = 0 then ((S2.sync jn).1, some l, 0) else ((S2.sync jn).1, none, (S2.sync jn).2) := rfl
            obtain ⟨S5, hS5⟩ : ∃ S5, S5 = (S2.sync jn).1 := ⟨_, rfl⟩
            obtain ⟨e5, he5⟩ : ∃ e5, e5 = (S2.sync jn).2 := ⟨_, rfl⟩
            rw [← hS5, ← he5] at hsy hU
            have HSY := Lib.hid hsy
            have HU := Lib.hid hU
            clear hsy hU hS5 he5
            go_wp2_with fail
            refine HSY.out.mono ?_
            rintro e w5 ⟨rfl, o5, h5, ch5⟩
            have H5 := Lib.hid h5
            have C5 : Hid (Ch O w o5 w5) := C4.out.trans ch5
            have HV5 : Hid (OwnR w5 w1.heap.size (.slice A3 l.length c3) l ∧ ∀ k, blk (Value.slice A3 l.length c3) = some k → k < w5.heap.size ∧ o5 k = none) := ⟨ch5.own HV4.out.1 (by omega) (fun k hk => (HV4.out.2 k hk).2), fun k hk => ⟨Nat.lt_of_lt_of_le (HV4.out.2 k hk).1 ch5.size, ch5.free k (HV4.out.2 k hk).1 (HV4.out.2 k hk).2⟩⟩
            have HSW : Hid (w.heap.size ≤ w5.heap.size) := C5.out.size
            clear h5 ch5
            by_cases hz5 : e5 = 0
            · have hz5e : ((e5 : Int) == 0) = true := by rw [hz5]; rfl
              have HU2 : Hid (S.jopen = (S5, some l, 0)) := by show _ = _; rw [HZ2.out, HU.out, if_pos hz5]
              clear hz5
              have HBX := Lib.hid (Blk.new w5 89 #[.pointer (some ⟨r, 0, none⟩), .slice A3 l.length c3])
              have GA := Lib.hid (gr_alloc w5 (.cells #[.pointer (some ⟨r, 0, none⟩), .slice A3 l.length c3] 89) none)
              go_wp2_with fail
              go_ret2
              rw [HU2.out]
              exact ⟨o5, H5.out.ext GA.out, C5.out.trans (Ch.ext GA.out), .inr ⟨l, _, _, rfl, rfl, rfl, HBX.out, Own.mono (HV5.out.1.ext GA.out) HBS.out, ⟨H5.out.fresh (Nat.le_refl _), fun k hk => (HV5.out.2 k hk).2⟩, HSW.out, fun k hk => Nat.ne_of_lt (HV5.out.2 k hk).1⟩⟩
            · have hz5e : ((e5 : Int) == 0) = false := by rw [beq_eq_false_iff_ne]; omega
              have HU2 : Hid (S.jopen = (S5, none, e5)) := by show _ = _; rw [HZ2.out, HU.out, if_neg hz5]
              clear hz5
              go_wp2_with fail
              go_ret2
              rw [HU2.out]
              exact ⟨o5, H5.out, C5.out, .inl ⟨rfl, rfl⟩⟩
          · have hze : ((e3 : Int) == 0) = false := by rw [beq_eq_false_iff_ne]; omega
            have HZ2 : Hid (S.jopen = (S2, none, e3)) := by show _ = _; rw [HY2.out, HZ.out, if_neg hz]
            clear hz
            go_wp2_with fail
            go_ret2
            rw [HZ2.out]
            exact ⟨o4, H4.out, C4.out, .inl ⟨rfl, rfl⟩⟩
        · have hlti : ¬ (64 : Int) * (l.length : Int) < (n : Int) := by omega
          have HZ2 : Hid (S.jopen = S.jsync l) := by show _ = _; rw [HY2.out, hZ, if_neg hlt]
          have HV3 : Hid (OwnR w3 w1.heap.size (.slice A3 l.length c3) l ∧ ∀ k, blk (Value.slice A3 l.length c3) = some k → k < w3.heap.size ∧ O k = none) := ⟨HO3B.out, hkr.out⟩
          clear hZ hlt
          have hsy := rsync_any HDA.out HUP.out.nodup jn (by simp)
          have hU : S.jsync l = if (S.sync jn).2 = 0 then ((S.sync jn).1, some l, 0) else ((S.sync jn).1, none, (S.sync jn).2) := rfl
          obtain ⟨S5, hS5⟩ : ∃ S5, S5 = (S.sync jn).1 := ⟨_, rfl⟩
          obtain ⟨e5, he5⟩ : ∃ e5, e5 = (S.sync jn).2 := ⟨_, rfl⟩
          rw [← hS5, ← he5] at hsy hU
          have HSY := Lib.hid hsy
          have HU := Lib.hid hU
          clear hsy hU hS5 he5
          go_wp2_with fail
          refine HSY.out.mono ?_
          rintro e w5 ⟨rfl, o5, h5, ch5⟩
          have H5 := Lib.hid h5
          have C5 : Hid (Ch O w o5 w5) := HCA.out.trans ch5
          have HV5 : Hid (OwnR w5 w1.heap.size (.slice A3 l.length c3) l ∧ ∀ k, blk (Value.slice A3 l.length c3) = some k → k < w5.heap.size ∧ o5 k = none) := ⟨ch5.own HV3.out.1 (by omega) (fun k hk => (HV3.out.2 k hk).2), fun k hk => ⟨Nat.lt_of_lt_of_le (HV3.out.2 k hk).1 ch5.size, ch5.free k (HV3.out.2 k hk).1 (HV3.out.2 k hk).2⟩⟩
          have HSW : Hid (w.heap.size ≤ w5.heap.size) := C5.out.size
          clear h5 ch5
          by_cases hz5 : e5 = 0
          · have hz5e : ((e5 : Int) == 0) = true := by rw [hz5]; rfl
            have HU2 : Hid (S.jopen = (S5, some l, 0)) := by show _ = _; rw [HZ2.out, HU.out, if_pos hz5]
            clear hz5
            have HBX := Lib.hid (Blk.new w5 89 #[.pointer (some ⟨r, 0, none⟩), .slice A3 l.length c3])
            have GA := Lib.hid (gr_alloc w5 (.cells #[.pointer (some ⟨r, 0, none⟩), .slice A3 l.length c3] 89) none)
            go_wp2_with fail
            go_ret2
            rw [HU2.out]
            exact ⟨o5, H5.out.ext GA.out, C5.out.trans (Ch.ext GA.out), .inr ⟨l, _, _, rfl, rfl, rfl, HBX.out, Own.mono (HV5.out.1.ext GA.out) HBS.out, ⟨H5.out.fresh (Nat.le_refl _), fun k hk => (HV5.out.2 k hk).2⟩, HSW.out, fun k hk => Nat.ne_of_lt (HV5.out.2 k hk).1⟩⟩
          · have hz5e : ((e5 : Int) == 0) = false := by rw [beq_eq_false_iff_ne]; omega
            have HU2 : Hid (S.jopen = (S5, none, e5)) := by show _ = _; rw [HZ2.out, HU.out, if_neg hz5]
            clear hz5
            go_wp2_with fail
            go_ret2
            rw [HU2.out]
            exact ⟨o5, H5.out, C5.out, .inl ⟨rfl, rfl⟩⟩
      · have hr0e : ((er : Int) == 0) = false := by rw [beq_eq_false_iff_ne]; omega
        have HY2 : Hid (S.jopen = (S, none, er)) := by show _ = _; rw [HJ.out, HY.out, if_neg hr0]
        clear hr0
        go_wp2_with fail
        go_ret2
        rw [HY2.out]
        exact ⟨O, HD.out.ext G2.out, HC.out.trans (Ch.ext G2.out), .inl ⟨rfl, rfl⟩⟩
    · have HJ : Hid (S.jopen = (S, none, es)) := by show _ = _; rw [HX.out, if_neg h3, if_neg h0]
      have h0e : ((es : Int) == 0) = false := by rw [beq_eq_false_iff_ne]; omega
      have HD : Hid (RS w0 w1 r O S) := H.out.ext G1.out
      clear h3 h0
      go_wp2_with fail
      go_ret2
      rw [HJ.out]
      exact ⟨O, HD.out, Ch.ext G1.out, .inl ⟨rfl, rfl⟩⟩
end
end Go.Proofs.YtipankjajdpiiaaGreat
