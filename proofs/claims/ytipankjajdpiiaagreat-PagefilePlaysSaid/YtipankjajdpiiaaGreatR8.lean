/-
  The document's disk: put.
-/
import Derived.Test.YtipankjajdpiiaaGreatR7
namespace Go.Proofs.YtipankjajdpiiaaGreat
open Go.RowKit Go.Maps
set_option maxRecDepth 100000
set_option maxHeartbeats 400000

section
variable {w0 w w' wb : World} {r N c q a k : Nat} {O : Own1} {A : Option Addr} {l : List Rm} {off : Bool} {R : RD}
def rm0 (n : List UInt8) : Rm := ⟨n, .slice none 0 0, .slice none 0 0, .slice none 0 0, [], [], []⟩
theorem RmOk.nil {v : Value} (n : List UInt8) (hn : n.length ≤ 24) : RmOk w O r v (rm0 n) := ⟨Rd.nil _ _, Rd.nil _ _, Rd.nil _ _, fun q e => (by rcases e with e | e | e <;> cases e), ⟨hn, by simp [rm0], by simp [rm0], by simp [rm0]⟩⟩
def RPut (w0 wb : World) (r : Nat) (O : Own1) (L : List Rf) (q a : Nat) (off : Bool) (e : Ending) (w' : World) : Prop := e = .returned (.tuple #[]) ∧ ∃ O', RS w0 w' r O' ⟨L, q, a, off⟩ ∧ Ch O wb O' w'
set_option maxHeartbeats 4000000 in
theorem rput_any (h : RV w0 wb r O A N c l q a off) (hN : N ≤ 999999) (n : List UInt8) (hn : n.length ≤ 24) : Calls Tryz.prog 112 #[.pointer (some ⟨r, 0, none⟩), .agg #[.string ⟨n.toArray⟩, .slice none 0 0, .slice none 0 0, .slice none 0 0]] wb (RPut w0 wb r O (putR (l.map Rm.rf) ⟨n, [], [], []⟩) q a off) := by
  have HL := Lib.hid h.len
  have H := Lib.hid h
  obtain ⟨w1, hw1⟩ : ∃ w1, w1 = wb.alloc (.cells #[.string ⟨n.toArray⟩, .slice none 0 0, .slice none 0 0, .slice none 0 0] 100) := ⟨_, rfl⟩
  have hg1 : wb.grownBy w1 none := by rw [hw1]; exact gr_alloc _ _ none
  have hbk : Blk w1 wb.heap.size 100 #[.string ⟨n.toArray⟩, .slice none 0 0, .slice none 0 0, .slice none 0 0] := by rw [hw1]; exact Blk.new wb _ _
  have G1 := Lib.hid hg1
  have HBK := Lib.hid hbk
  have HNN := Lib.hid hn
  clear h hg1 hbk hn
  go_enter Tryz.func112, Tryz.ntmps112
  go_wp2_with fail
  rw [← hw1]
  clear hw1
  go_loopw [4] (fun iv wr => ∃ k : Nat, k ≤ N ∧ iv = .int .i64 k ∧ w1.grownBy wr none ∧ ∀ j, (hj : j < l.length) → j < k → bl l[j].n n = true) (fun iv _ => N - (intOf iv).toNat)
  case atStart => exact ⟨0, Nat.zero_le _, rfl, gr_refl _ _, fun j _ hj => by omega⟩
  case round =>
    obtain ⟨k, hk, rfl, hg, hall⟩ := hrel
    have hgw := gr_none G1.out hg
    have hs := (H.out.self.ext hgw).cell
    have hsf := (H.out.self.ext hgw).frozen
    have hbc := (HBK.out.ext hg).cell
    have s0 : wr.cell? ⟨r, 0, none⟩ = some (.slice A N c) := hs 0
    have b0 : wr.cell? ⟨wb.heap.size, 0, none⟩ = some (.string ⟨n.toArray⟩) := hbc 0
    by_cases hlt : k < N
    · have hkl : k < l.length := by rw [HL.out]; exact hlt
      obtain ⟨ga, offa, rfl, hNc, -, -, hat, -⟩ := (H.out.ext hgw).at_ hlt
      have c0 := (hat hkl).1
      obtain ⟨nm, hnm⟩ : ∃ nm, nm = l[k].n := ⟨_, rfl⟩
      rw [← hnm] at c0
      have HX : Hid (l[k].n = nm) := hnm.symm
      have HALL := Lib.hid hall
      have HG := Lib.hid hg
      have hki : (k : Int) < (N : Int) := by omega
      have hk0 : (0 : Int) ≤ (k : Int) := by omega
      clear hat hnm hall
      by_cases he : bl nm n = true
      · have HA2 : Hid (∀ j, (hj : j < l.length) → j < k + 1 → bl l[j].n n = true) := fun j hj hjk => by
          by_cases e : j = k
          · subst e; rw [HX.out]; exact he
          · exact HALL.out j hj (by omega)
        go_wp2_with fail
        go_region_held3 (fun w' => w'.cell? ⟨r, 0, none⟩ = some (.slice (some ⟨ga, offa, none⟩) N c) ∧ w'.cell? ⟨wb.heap.size, 0, none⟩ = some (.string ⟨n.toArray⟩) ∧ w'.cell? ⟨ga, offa + k * 4, none⟩ = some (.string ⟨nm.toArray⟩)) (go_keep) (fail)
        go_wp2
        go_roundw
        case rel => exact ⟨k + 1, by omega, by go_num, gr_none HG.out (gr_drew _ _), HA2.out⟩
        case measure => simp [intOf] <;> omega
      · have heb : bl nm n = false := by simpa using he
        have HEND : Hid (k = l.length ∨ ∃ h : k < l.length, bl l[k].n n = false) := .inr ⟨hkl, by rw [HX.out]; exact heb⟩
        have hall := HALL.out
        go_wp2_with fail
        go_region_held3 (fun w' => w'.cell? ⟨r, 0, none⟩ = some (.slice (some ⟨ga, offa, none⟩) N c) ∧ w'.cell? ⟨wb.heap.size, 0, none⟩ = some (.string ⟨n.toArray⟩) ∧ w'.cell? ⟨ga, offa + k * 4, none⟩ = some (.string ⟨nm.toArray⟩)) (go_keep) (fail)
        obtain ⟨wd, hwd⟩ : ∃ wd, wd = wr.drew := ⟨_, rfl⟩
        have hgd : wb.grownBy wd none := by rw [hwd]; exact gr_none hgw (gr_drew _ _)
        have hbd : Blk wd wb.heap.size 100 #[.string ⟨n.toArray⟩, .slice none 0 0, .slice none 0 0, .slice none 0 0] := by rw [hwd]; exact (HBK.out.ext hg).ext (gr_drew _ _)
        rw [← hwd]
        have HGD := Lib.hid hgd
        have HBD := Lib.hid hbd
        have s1 : (wd.alloc (.cells #[] 100)).cell? ⟨r, 0, none⟩ = some (.slice (some ⟨ga, offa, none⟩) N c) := (H.out.self.ext (gr_none hgd (gr_alloc _ _ none))).cell 0
        have hkN : (k : Int) ≤ (N : Int) := by omega
        have hkc : (k : Int) ≤ (c : Int) := by have := Own.cap H.out.own; omega
        have hNc2 : (N : Int) ≤ (c : Int) := by have := Own.cap H.out.own; omega
        have HRD : Hid (∀ wx, wb.grownBy wx none → Rd wx 4 (.slice (some ⟨ga, offa, none⟩) N c) N (l.flatMap Rm.enc)) := fun wx g => (H.out.own.rd).ext g
        have HSF : Hid (∀ wx, wb.grownBy wx none → ∀ i, wx.cell? ⟨r, i, none⟩ = #[.slice (some ⟨ga, offa, none⟩) N c, .int .i64 q, .int .i64 a, .bool off][i]? ∧ wx.frozen? ⟨r, i, none⟩ = false) := fun wx g i => ⟨(H.out.self.ext g).cell i, (H.out.self.ext g).frozen i⟩
        have HON : Hid (∀ y ∈ l, y.nv.oneCell' = true ∧ y.lv.oneCell' = true ∧ y.sv.oneCell' = true) := fun y hy => (H.out.ok y hy).one
        clear hwd hgd hbd hg hgw hs hsf hbc s0 b0 hall
        go_wp2_with (first
          | (at_builtin; refine wp_appRm (l := []) (l2 := l.take k) rfl rfl (.tmp 28) (.tmp 34) rfl rfl (own_emptyRm _ _ HGD.out.size) rfl (rd_takeRm (HRD.out _ (gr_none HGD.out (gr_alloc _ _ none))) (by omega)) (fun y hy => HON.out y (List.mem_of_mem_take hy)) (by omega) (by rw [World.size_alloc]; have := HGD.out.size; omega) ?_; rintro v7 w7 ho7 ha7; have f7 := (fro_empty wb wd HGD.out).app (l' := l.take k) ho7 ha7; rw [Nat.zero_add] at f7; obtain ⟨A7, c7, rfl⟩ := f7.form; have F7 := Lib.hid f7; have bc7 := (HBD.out.ext (ap1_gr ha7 (gr_alloc wd _ none) (fun q e => by cases e; exact Nat.le_refl _))).cell; clear f7 ho7 ha7)
          | (at_builtin; refine wp_appRm (l := l.take k) (l2 := [rm0 n]) rfl rfl (.tmp 36) (.tmp 38) rfl rfl (F7.out.own.alloc _) rfl (rd_lit w7 4 1 1 #[.string ⟨n.toArray⟩, .slice none 0 0, .slice none 0 0, .slice none 0 0] 100 (by simp) (Nat.le_refl _) (by unfold maxLen; omega)) (fun y hy => by rw [List.mem_singleton.1 hy]; exact ⟨rfl, rfl, rfl⟩) (by omega) (by rw [World.size_alloc]; have := F7.out.gr.size; omega) ?_; rintro v8 w8 ho8 ha8; have f8 := (F7.out.alloc (.cells #[.string ⟨n.toArray⟩, .slice none 0 0, .slice none 0 0, .slice none 0 0] 100)).app (l' := l.take k ++ [rm0 n]) ho8 ha8; obtain ⟨A8, c8, rfl⟩ := f8.form; have F8 := Lib.hid f8; have s8 : w8.cell? ⟨r, 0, none⟩ = some (.slice (some ⟨ga, offa, none⟩) N c) := (HSF.out w8 f8.gr 0).1; clear f8 ho8 ha8)
          | (at_builtin; refine wp_appRm (l := l.take k ++ [rm0 n]) (l2 := l.drop k) rfl rfl (.tmp 41) (.tmp 47) rfl rfl F8.out.own rfl (rd_dropRm (HRD.out _ F8.out.gr) (by omega)) (fun y hy => HON.out y (List.mem_of_mem_drop hy)) (by omega) F8.out.gr.size ?_; rintro v9 w9 ho9 ha9; have f9 := F8.out.app (l' := (l.take k ++ [rm0 n]) ++ l.drop k) ho9 ha9; obtain ⟨A9, c9, rfl⟩ := f9.form; have F9 := Lib.hid f9; have s9 : w9.cell? ⟨r, 0, none⟩ = some (.slice (some ⟨ga, offa, none⟩) N c) := (HSF.out w9 f9.gr 0).1; have z9 := (HSF.out w9 f9.gr 0).2; clear f9 ho9 ha9))
        go_end0
        have hlen : ((l.take k ++ [rm0 n]) ++ l.drop k).length = k + 1 + (N - k) := by simp; have := HL.out; omega
        have hrl := H.out.relist F9.out.gr F9.out.own hlen (by omega) fun x hx => by
          rcases List.mem_append.1 hx with hx | hx
          · rcases List.mem_append.1 hx with hx | hx
            · exact .inl (List.mem_of_mem_take hx)
            · rw [List.mem_singleton.1 hx]; exact .inr (RmOk.nil n HNN.out)
          · exact .inl (List.mem_of_mem_drop hx)
        refine ⟨rfl, _, ⟨_, _, _, _, hrl, ?_⟩, H.out.relist_ch F9.out.gr _⟩
        rw [List.append_assoc]
        exact putR_split (x := rm0 n) HALL.out HEND.out
    · have hkN0 : k = N := by omega
      subst hkN0
      have HEND : Hid (k = l.length ∨ ∃ h : k < l.length, bl l[k].n n = false) := .inl HL.out.symm
      have HALL := Lib.hid hall
      have hki : ¬ (k : Int) < (k : Int) := by omega
      have hkd : decide ((k : Int) < (k : Int)) = false := decide_eq_false hki
      go_wp2_with fail
      refine wp_region_held_drew (S := fun w' => w'.cell? ⟨r, 0, none⟩ = some (.slice A k c)) (by kernel_rfl) ?_ (fun hHeld => ?_)
      · ((try dsimp only); exact s0)
      first
        | (refine wpAnyH_take (i := 0) (oi := _) (v := ?vop1) (by simp only [List.getElem?_toArray, List.getElem?_cons_zero]; rfl) (by kernel_rfl) (by kernel_rfl) (by kernel_rfl) (by exact fun _ _ _ h => h) (Or.inl ⟨by rfl, ?hyop1⟩) (by assumption) ?restop1
           case hyop1 => (intro w hSw; (try dsimp only at hSw); go_simp; try (with_reducible rfl)))
        | refine wpAnyH_take (i := 0) (oi := _) (v := undef) (by simp only [List.getElem?_toArray, List.getElem?_cons_zero]; rfl) (by kernel_rfl) (by kernel_rfl) (by kernel_rfl) (by exact fun _ _ _ h => h) (Or.inr ⟨by rfl, rfl⟩) (by assumption) ?_
      try simp only [Act.put, List.setIfInBounds_toArray, List.set_cons_zero, List.set_cons_succ]
      first
        | (refine wpAnyH_take (i := 1) (oi := _) (v := ?vop2) (by simp only [List.getElem?_toArray, List.getElem?_cons_succ, List.getElem?_cons_zero]; rfl) (by kernel_rfl) (by kernel_rfl) (by kernel_rfl) (by exact fun _ _ _ h => h) (Or.inl ⟨by rfl, ?hyop2⟩) (by assumption) ?restop2
           case hyop2 => (intro w hSw; (try dsimp only at hSw); go_simp; try (with_reducible rfl)))
        | refine wpAnyH_take (i := 1) (oi := _) (v := undef) (by simp only [List.getElem?_toArray, List.getElem?_cons_succ, List.getElem?_cons_zero]; rfl) (by kernel_rfl) (by kernel_rfl) (by kernel_rfl) (by exact fun _ _ _ h => h) (Or.inr ⟨by rfl, rfl⟩) (by assumption) ?_
      try simp only [Act.put, List.setIfInBounds_toArray, List.set_cons_zero, List.set_cons_succ]
      first
        | (refine wpAnyH_take (i := 2) (oi := _) (v := ?vop3) (by simp only [List.getElem?_toArray, List.getElem?_cons_succ, List.getElem?_cons_zero]; rfl) (by kernel_rfl) (by kernel_rfl) (by kernel_rfl) (by exact fun _ _ _ h => h) (Or.inl ⟨by rfl, ?hyop3⟩) (by assumption) ?restop3
           case hyop3 => (intro w hSw; (try dsimp only at hSw); go_simp; try (with_reducible rfl)))
        | refine wpAnyH_take (i := 2) (oi := _) (v := undef) (by simp only [List.getElem?_toArray, List.getElem?_cons_succ, List.getElem?_cons_zero]; rfl) (by kernel_rfl) (by kernel_rfl) (by kernel_rfl) (by exact fun _ _ _ h => h) (Or.inr ⟨by rfl, rfl⟩) (by assumption) ?_
      try simp only [Act.put, List.setIfInBounds_toArray, List.set_cons_zero, List.set_cons_succ]
      first
        | (refine wpAnyH_take (i := 3) (oi := _) (v := ?vop4) (by simp only [List.getElem?_toArray, List.getElem?_cons_succ, List.getElem?_cons_zero]; rfl) (by kernel_rfl) (by kernel_rfl) (by kernel_rfl) (by exact fun _ _ _ h => h) (Or.inl ⟨by rfl, ?hyop4⟩) (by assumption) ?restop4
           case hyop4 => (intro w hSw; (try dsimp only at hSw); go_simp; try (with_reducible rfl)))
        | refine wpAnyH_take (i := 3) (oi := _) (v := undef) (by simp only [List.getElem?_toArray, List.getElem?_cons_succ, List.getElem?_cons_zero]; rfl) (by kernel_rfl) (by kernel_rfl) (by kernel_rfl) (by exact fun _ _ _ h => h) (Or.inr ⟨by rfl, rfl⟩) (by assumption) ?_
      try simp only [Act.put, List.setIfInBounds_toArray, List.set_cons_zero, List.set_cons_succ]
      first
        | (refine wpAnyH_take (i := 4) (oi := _) (v := ?vop5) (by simp only [List.getElem?_toArray, List.getElem?_cons_succ, List.getElem?_cons_zero]; rfl) (by kernel_rfl) (by kernel_rfl) (by kernel_rfl) (by exact fun _ _ _ h => h) (Or.inl ⟨by rfl, ?hyop5⟩) (by assumption) ?restop5
           case hyop5 => (intro w hSw; (try dsimp only at hSw); go_simp; try (with_reducible rfl)))
        | refine wpAnyH_take (i := 4) (oi := _) (v := undef) (by simp only [List.getElem?_toArray, List.getElem?_cons_succ, List.getElem?_cons_zero]; rfl) (by kernel_rfl) (by kernel_rfl) (by kernel_rfl) (by exact fun _ _ _ h => h) (Or.inr ⟨by rfl, rfl⟩) (by assumption) ?_
      try simp only [Act.put, List.setIfInBounds_toArray, List.set_cons_zero, List.set_cons_succ]
      first
        | (refine wpAnyH_take (i := 5) (oi := _) (v := ?vop6) (by simp only [List.getElem?_toArray, List.getElem?_cons_succ, List.getElem?_cons_zero]; rfl) (by kernel_rfl) (by kernel_rfl) (by kernel_rfl) (by exact fun _ _ _ h => h) (Or.inl ⟨by rfl, ?hyop6⟩) (by assumption) ?restop6
           case hyop6 => (intro w hSw; (try dsimp only at hSw); go_simp; try (with_reducible rfl)))
        | refine wpAnyH_take (i := 5) (oi := _) (v := undef) (by simp only [List.getElem?_toArray, List.getElem?_cons_succ, List.getElem?_cons_zero]; rfl) (by kernel_rfl) (by kernel_rfl) (by kernel_rfl) (by exact fun _ _ _ h => h) (Or.inr ⟨by rfl, rfl⟩) (by assumption) ?_
      try simp only [Act.put, List.setIfInBounds_toArray, List.set_cons_zero, List.set_cons_succ]
      first
        | (refine wpAnyH_take (i := 6) (oi := _) (v := ?vop7) (by simp only [List.getElem?_toArray, List.getElem?_cons_succ, List.getElem?_cons_zero]; rfl) (by kernel_rfl) (by kernel_rfl) (by kernel_rfl) (by exact fun _ _ _ h => h) (Or.inl ⟨by rfl, ?hyop7⟩) (by assumption) ?restop7
           case hyop7 => (intro w hSw; (try dsimp only at hSw); go_simp; try (with_reducible rfl)))
        | refine wpAnyH_take (i := 6) (oi := _) (v := undef) (by simp only [List.getElem?_toArray, List.getElem?_cons_succ, List.getElem?_cons_zero]; rfl) (by kernel_rfl) (by kernel_rfl) (by kernel_rfl) (by exact fun _ _ _ h => h) (Or.inr ⟨by rfl, rfl⟩) (by assumption) ?_
      try simp only [Act.put, List.setIfInBounds_toArray, List.set_cons_zero, List.set_cons_succ]
      first
        | (refine wpAnyH_take (i := 7) (oi := _) (v := ?vop8) (by simp only [List.getElem?_toArray, List.getElem?_cons_succ, List.getElem?_cons_zero]; rfl) (by kernel_rfl) (by kernel_rfl) (by kernel_rfl) (by exact fun _ _ _ h => h) (Or.inl ⟨by rfl, ?hyop8⟩) (by assumption) ?restop8
           case hyop8 => (intro w hSw; (try dsimp only at hSw); go_simp; try (with_reducible rfl)))
        | refine wpAnyH_take (i := 7) (oi := _) (v := undef) (by simp only [List.getElem?_toArray, List.getElem?_cons_succ, List.getElem?_cons_zero]; rfl) (by kernel_rfl) (by kernel_rfl) (by kernel_rfl) (by exact fun _ _ _ h => h) (Or.inr ⟨by rfl, rfl⟩) (by assumption) ?_
      try simp only [Act.put, List.setIfInBounds_toArray, List.set_cons_zero, List.set_cons_succ]
      refine wpAnyH_take (i := 8) (oi := _) (v := undef) (by simp only [List.getElem?_toArray, List.getElem?_cons_succ, List.getElem?_cons_zero]; rfl) (by kernel_rfl) (by kernel_rfl) (by kernel_rfl) (by exact fun _ _ _ h => h) (Or.inr ⟨by rfl, rfl⟩) (by assumption) ?_
      try simp only [Act.put, List.setIfInBounds_toArray, List.set_cons_zero, List.set_cons_succ]
      refine wpAnyH_take (i := 9) (oi := _) (v := undef) (by simp only [List.getElem?_toArray, List.getElem?_cons_succ, List.getElem?_cons_zero]; rfl) (by kernel_rfl) (by kernel_rfl) (by kernel_rfl) (by exact fun _ _ _ h => h) (Or.inr ⟨by rfl, rfl⟩) (by assumption) ?_
      try simp only [Act.put, List.setIfInBounds_toArray, List.set_cons_zero, List.set_cons_succ]
      refine wpAnyH_take (i := 10) (oi := _) (v := undef) (by simp only [List.getElem?_toArray, List.getElem?_cons_succ, List.getElem?_cons_zero]; rfl) (by kernel_rfl) (by kernel_rfl) (by kernel_rfl) (by exact fun _ _ _ h => h) (Or.inr ⟨by rfl, rfl⟩) (by assumption) ?_
      try simp only [Act.put, List.setIfInBounds_toArray, List.set_cons_zero, List.set_cons_succ]
      refine wpAnyH_take (i := 11) (oi := _) (v := undef) (by simp only [List.getElem?_toArray, List.getElem?_cons_succ, List.getElem?_cons_zero]; rfl) (by kernel_rfl) (by kernel_rfl) (by kernel_rfl) (by exact fun _ _ _ h => h) (Or.inr ⟨by rfl, rfl⟩) (by assumption) ?_
      try simp only [Act.put, List.setIfInBounds_toArray, List.set_cons_zero, List.set_cons_succ]
      refine wpAnyH_take (i := 12) (oi := _) (v := undef) (by simp only [List.getElem?_toArray, List.getElem?_cons_succ, List.getElem?_cons_zero]; rfl) (by kernel_rfl) (by kernel_rfl) (by kernel_rfl) (by exact fun _ _ _ h => h) (Or.inr ⟨by rfl, rfl⟩) (by assumption) ?_
      try simp only [Act.put, List.setIfInBounds_toArray, List.set_cons_zero, List.set_cons_succ]
      refine wpAnyH_take (i := 13) (oi := _) (v := undef) (by simp only [List.getElem?_toArray, List.getElem?_cons_succ, List.getElem?_cons_zero]; rfl) (by kernel_rfl) (by kernel_rfl) (by kernel_rfl) (by exact fun _ _ _ h => h) (Or.inr ⟨by rfl, rfl⟩) (by assumption) ?_
      try simp only [Act.put, List.setIfInBounds_toArray, List.set_cons_zero, List.set_cons_succ]
      refine wpAnyH_take (i := 14) (oi := _) (v := undef) (by simp only [List.getElem?_toArray, List.getElem?_cons_succ, List.getElem?_cons_zero]; rfl) (by kernel_rfl) (by kernel_rfl) (by kernel_rfl) (by exact fun _ _ _ h => h) (Or.inr ⟨by rfl, rfl⟩) (by assumption) ?_
      try simp only [Act.put, List.setIfInBounds_toArray, List.set_cons_zero, List.set_cons_succ]
      refine wpAnyH_take (i := 15) (oi := _) (v := undef) (by simp only [List.getElem?_toArray, List.getElem?_cons_succ, List.getElem?_cons_zero]; rfl) (by kernel_rfl) (by kernel_rfl) (by kernel_rfl) (by exact fun _ _ _ h => h) (Or.inr ⟨by rfl, rfl⟩) (by assumption) ?_
      try simp only [Act.put, List.setIfInBounds_toArray, List.set_cons_zero, List.set_cons_succ]
      refine wpAnyH_take (i := 16) (oi := _) (v := undef) (by simp only [List.getElem?_toArray, List.getElem?_cons_succ, List.getElem?_cons_zero]; rfl) (by kernel_rfl) (by kernel_rfl) (by kernel_rfl) (by exact fun _ _ _ h => h) (Or.inr ⟨by rfl, rfl⟩) (by assumption) ?_
      try simp only [Act.put, List.setIfInBounds_toArray, List.set_cons_zero, List.set_cons_succ]
      refine wpAnyH_take (i := 17) (oi := _) (v := undef) (by simp only [List.getElem?_toArray, List.getElem?_cons_succ, List.getElem?_cons_zero]; rfl) (by kernel_rfl) (by kernel_rfl) (by kernel_rfl) (by exact fun _ _ _ h => h) (Or.inr ⟨by rfl, rfl⟩) (by assumption) ?_
      try simp only [Act.put, List.setIfInBounds_toArray, List.set_cons_zero, List.set_cons_succ]
      refine wpAnyH_take (i := 18) (oi := _) (v := undef) (by simp only [List.getElem?_toArray, List.getElem?_cons_succ, List.getElem?_cons_zero]; rfl) (by kernel_rfl) (by kernel_rfl) (by kernel_rfl) (by exact fun _ _ _ h => h) (Or.inr ⟨by rfl, rfl⟩) (by assumption) ?_
      try simp only [Act.put, List.setIfInBounds_toArray, List.set_cons_zero, List.set_cons_succ]
      first
        | (refine wpAnyH_take (i := 19) (oi := _) (v := ?vop9) (by simp only [List.getElem?_toArray, List.getElem?_cons_succ, List.getElem?_cons_zero]; rfl) (by kernel_rfl) (by kernel_rfl) (by kernel_rfl) (by exact fun _ _ _ h => h) (Or.inl ⟨by rfl, ?hyop9⟩) (by assumption) ?restop9
           case hyop9 => (intro w hSw; (try dsimp only at hSw); go_simp; try (with_reducible rfl)))
        | refine wpAnyH_take (i := 19) (oi := _) (v := undef) (by simp only [List.getElem?_toArray, List.getElem?_cons_succ, List.getElem?_cons_zero]; rfl) (by kernel_rfl) (by kernel_rfl) (by kernel_rfl) (by exact fun _ _ _ h => h) (Or.inr ⟨by rfl, rfl⟩) (by assumption) ?_
      try simp only [Act.put, List.setIfInBounds_toArray, List.set_cons_zero, List.set_cons_succ]
      refine wpAnyH_done (by kernel_rfl) ?_ _
      obtain ⟨wd, hwd⟩ : ∃ wd, wd = wr.drew := ⟨_, rfl⟩
      have hgd : wb.grownBy wd none := by rw [hwd]; exact gr_none hgw (gr_drew _ _)
      have hbd : Blk wd wb.heap.size 100 #[.string ⟨n.toArray⟩, .slice none 0 0, .slice none 0 0, .slice none 0 0] := by rw [hwd]; exact (HBK.out.ext hg).ext (gr_drew _ _)
      rw [← hwd]
      have HGD := Lib.hid hgd
      have HBD := Lib.hid hbd
      have s1 : (wd.alloc (.cells #[] 100)).cell? ⟨r, 0, none⟩ = some (.slice A k c) := (H.out.self.ext (gr_none hgd (gr_alloc _ _ none))).cell 0
      have hkN : (k : Int) ≤ (k : Int) := by omega
      have hkc : (k : Int) ≤ (c : Int) := by have := Own.cap H.out.own; omega
      have hNc2 : (k : Int) ≤ (c : Int) := by have := Own.cap H.out.own; omega
      have HRD : Hid (∀ wx, wb.grownBy wx none → Rd wx 4 (.slice A k c) k (l.flatMap Rm.enc)) := fun wx g => (H.out.own.rd).ext g
      have HSF : Hid (∀ wx, wb.grownBy wx none → ∀ i, wx.cell? ⟨r, i, none⟩ = #[.slice A k c, .int .i64 q, .int .i64 a, .bool off][i]? ∧ wx.frozen? ⟨r, i, none⟩ = false) := fun wx g i => ⟨(H.out.self.ext g).cell i, (H.out.self.ext g).frozen i⟩
      have HON : Hid (∀ y ∈ l, y.nv.oneCell' = true ∧ y.lv.oneCell' = true ∧ y.sv.oneCell' = true) := fun y hy => (H.out.ok y hy).one
      clear hwd hgd hbd hg hgw hs hsf hbc s0 b0 hall
      go_wp2_with (first
        | (at_builtin; refine wp_appRm (l := []) (l2 := l.take k) rfl rfl (.tmp 28) (.tmp 34) rfl rfl (own_emptyRm _ _ HGD.out.size) rfl (rd_takeRm (HRD.out _ (gr_none HGD.out (gr_alloc _ _ none))) (by omega)) (fun y hy => HON.out y (List.mem_of_mem_take hy)) (by omega) (by rw [World.size_alloc]; have := HGD.out.size; omega) ?_; rintro v7 w7 ho7 ha7; have f7 := (fro_empty wb wd HGD.out).app (l' := l.take k) ho7 ha7; rw [Nat.zero_add] at f7; obtain ⟨A7, c7, rfl⟩ := f7.form; have F7 := Lib.hid f7; have bc7 := (HBD.out.ext (ap1_gr ha7 (gr_alloc wd _ none) (fun q e => by cases e; exact Nat.le_refl _))).cell; clear f7 ho7 ha7)
        | (at_builtin; refine wp_appRm (l := l.take k) (l2 := [rm0 n]) rfl rfl (.tmp 36) (.tmp 38) rfl rfl (F7.out.own.alloc _) rfl (rd_lit w7 4 1 1 #[.string ⟨n.toArray⟩, .slice none 0 0, .slice none 0 0, .slice none 0 0] 100 (by simp) (Nat.le_refl _) (by unfold maxLen; omega)) (fun y hy => by rw [List.mem_singleton.1 hy]; exact ⟨rfl, rfl, rfl⟩) (by omega) (by rw [World.size_alloc]; have := F7.out.gr.size; omega) ?_; rintro v8 w8 ho8 ha8; have f8 := (F7.out.alloc (.cells #[.string ⟨n.toArray⟩, .slice none 0 0, .slice none 0 0, .slice none 0 0] 100)).app (l' := l.take k ++ [rm0 n]) ho8 ha8; obtain ⟨A8, c8, rfl⟩ := f8.form; have F8 := Lib.hid f8; have s8 : w8.cell? ⟨r, 0, none⟩ = some (.slice A k c) := (HSF.out w8 f8.gr 0).1; clear f8 ho8 ha8)
        | (at_builtin; refine wp_appRm (l := l.take k ++ [rm0 n]) (l2 := l.drop k) rfl rfl (.tmp 41) (.tmp 47) rfl rfl F8.out.own rfl (by have h5 := rd_dropRm (HRD.out _ F8.out.gr) (Nat.le_refl k); rw [Nat.sub_self] at h5; exact h5) (fun y hy => HON.out y (List.mem_of_mem_drop hy)) (by omega) F8.out.gr.size ?_; rintro v9 w9 ho9 ha9; have f9 := F8.out.app (l' := (l.take k ++ [rm0 n]) ++ l.drop k) ho9 ha9; obtain ⟨A9, c9, rfl⟩ := f9.form; have F9 := Lib.hid f9; have s9 : w9.cell? ⟨r, 0, none⟩ = some (.slice A k c) := (HSF.out w9 f9.gr 0).1; have z9 := (HSF.out w9 f9.gr 0).2; clear f9 ho9 ha9))
      go_end0
      have hlen : ((l.take k ++ [rm0 n]) ++ l.drop k).length = k + 1 + 0 := by simp; have := HL.out; omega
      have hrl := H.out.relist F9.out.gr F9.out.own hlen (by omega) fun x hx => by
        rcases List.mem_append.1 hx with hx | hx
        · rcases List.mem_append.1 hx with hx | hx
          · exact .inl (List.mem_of_mem_take hx)
          · rw [List.mem_singleton.1 hx]; exact .inr (RmOk.nil n HNN.out)
        · exact .inl (List.mem_of_mem_drop hx)
      refine ⟨rfl, _, ⟨_, _, _, _, hrl, ?_⟩, H.out.relist_ch F9.out.gr _⟩
      rw [List.append_assoc]
      exact putR_split (x := rm0 n) HALL.out HEND.out
end
end Go.Proofs.YtipankjajdpiiaaGreat
