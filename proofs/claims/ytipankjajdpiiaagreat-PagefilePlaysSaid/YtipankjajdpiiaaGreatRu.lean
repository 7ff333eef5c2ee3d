/-
  The document's files of pages, over its disk.
-/
import Derived.Test.YtipankjajdpiiaaGreatSk
import Derived.Test.YtipankjajdpiiaaGreatRs
namespace Go.Proofs.YtipankjajdpiiaaGreat
open Go.RowKit Go.Maps
set_option maxRecDepth 100000
set_option maxHeartbeats 400000

structure RpR (w : World) (B : Nat) (o : Own1) (r pf : Nat) (n : List UInt8) : Prop where
  box : Blk w pf 150 #[.pointer (some ⟨r, 0, none⟩), .string ⟨n.toArray⟩]
  free : o pf = none
  pB : B ≤ pf
def RD.ppages (S : RD) (n : List UInt8) : Nat × Nat := ((S.size n).1 / 256, (S.size n).2)
def RD.pread (S : RD) (n : List UInt8) (k : Int) : List UInt8 × Nat :=
  if k < 0 then ([], 1) else if (S.size n).2 ≠ 0 then ([], (S.size n).2) else if (((S.size n).1 / 256 : Nat) : Int) ≤ k then ([], 3) else
  match pagO (S.read n (k * 256) 256).1 (crcS n) k.toNat with
  | none => ([], 7)
  | some b => (b, 0)
def RD.pwrite (S : RD) (n : List UInt8) (k : Int) (b : List UInt8) : RD × Nat :=
  if k < 0 then (S, 1) else if 240 < b.length then (S, 9) else if (S.size n).2 ≠ 0 then (S, (S.size n).2) else if (((S.size n).1 / 256 : Nat) : Int) < k then (S, 1) else
  S.write n (k * 256) (pagB (crcS n) k.toNat b)
def RD.pgs (S : RD) (n : List UInt8) : Nat × Nat := if (S.size n).2 ≠ 0 then (0, (S.size n).2) else if (S.size n).1 % 256 ≠ 0 then (0, 7) else ((S.size n).1 / 256, 0)
section
variable {w0 w w' : World} {B r pf : Nat} {o o' O O' : Own1} {S R : RD} {n : List UInt8}
theorem RpR.ch (h : RpR w B o r pf n) (hc : Ch o w o' w') : RpR w' B o' r pf n := ⟨hc.blk h.box h.free, hc.free _ h.box.lt h.free, h.pB⟩
theorem RpR.ext (h : RpR w B o r pf n) (hg : w.grownBy w' none) : RpR w' B o r pf n := h.ch (Ch.ext hg)
theorem RpR.cells (h : RpR w B o r pf n) : w.cell? ⟨pf, 0, none⟩ = some (.pointer (some ⟨r, 0, none⟩)) ∧ w.cell? ⟨pf, 1, none⟩ = some (.string ⟨n.toArray⟩) := ⟨h.box.cell 0, h.box.cell 1⟩
theorem rrsize_le (h : RS w0 w r O R) (n : List UInt8) : (R.size n).1 ≤ 16777216 ∧ (R.size n).2 ≤ 9 := by
  refine ⟨rsize_le h n, ?_⟩
  unfold RD.size
  split
  · simp
  · split
    · simp
    · split
      · simp
      · simp
theorem rpages_any (h : RS w0 w r O S) (hp : RpR w B o r pf n) (hn : n.length ≤ 1000000000) :
    Calls Tryz.prog 59 #[.pointer (some ⟨pf, 0, none⟩)] w fun e w' => e = .returned (.tuple #[.int .i64 (S.ppages n).1, .int .i64 (S.ppages n).2]) ∧ w.grownBy w' none := by
  have HS : Hid (∀ wx, w.grownBy wx none → Calls Tryz.prog 78 #[.pointer (some ⟨r, 0, none⟩), .string ⟨n.toArray⟩] wx fun e w' => e = .returned (.tuple #[.int .i64 (S.size n).1, .int .i64 (S.size n).2]) ∧ wx.grownBy w' none) := fun wx hg => rsize_any (h.ext hg) n hn
  have hsz := (rrsize_le h n).1
  have HK : Hid (∀ wx, w.grownBy wx none → wx.cell? ⟨pf, 0, none⟩ = some (.pointer (some ⟨r, 0, none⟩)) ∧ wx.cell? ⟨pf, 1, none⟩ = some (.string ⟨n.toArray⟩)) := fun wx hg => (hp.ext hg).cells
  have HE : Hid ((((S.size n).1 : Nat) : Int) / 256 = ((S.ppages n).1 : Nat)) := by show _ = _; unfold RD.ppages; push_cast; rfl
  have HE2 : Hid ((S.size n).2 = (S.ppages n).2) := rfl
  have kk := HK.out w (gr_refl _ _)
  rw [← HE2.out, ← HE.out]
  clear h hp HE HE2
  generalize (S.size n).1 = a at *
  generalize (S.size n).2 = b at *
  go_enter Tryz.func59, Tryz.ntmps59
  go_wp2
  go_region_held3 (fun w' => w'.cell? ⟨pf, 0, none⟩ = some (.pointer (some ⟨r, 0, none⟩)) ∧ w'.cell? ⟨pf, 1, none⟩ = some (.string ⟨n.toArray⟩)) (go_keep) (first
    | (go_at_call 78; (with_reducible refine (HS.out _ ?_).mono ?_); (first | exact gr_drew _ _ | exact gr_refl _ _); rintro e w1 ⟨rfl, g1⟩; have kk1 := HK.out _ (gr_trans (gr_drew _ _) g1 (.inl rfl))))
  go_wp2
  go_ret2
  exact ⟨rfl, gr_trans (gr_drew _ _) g1 (.inl rfl)⟩
theorem rpsync_any (h : RS w0 w r O S) (hup : Up S) (hp : RpR w B O r pf n) (hn : n.length ≤ 1000000000) :
    Calls Tryz.prog 58 #[.pointer (some ⟨pf, 0, none⟩)] w fun e w' => e = .returned (.int .i64 (S.sync n).2) ∧ RSn w0 r O (S.sync n).1 w w' := by
  have HS : Hid (∀ wx, w.grownBy wx none → Calls Tryz.prog 83 #[.pointer (some ⟨r, 0, none⟩), .string ⟨n.toArray⟩] wx fun e w' => e = .returned (.int .i64 (S.sync n).2) ∧ RSn w0 r O (S.sync n).1 wx w') := fun wx hg => rsync_any (h.ext hg) hup.nodup n hn
  have HP := Lib.hid hp
  have kk := hp.cells
  clear h hp
  go_enter Tryz.func58, Tryz.ntmps58
  go_wp2
  go_region_held3 (fun w' => w'.cell? ⟨pf, 0, none⟩ = some (.pointer (some ⟨r, 0, none⟩)) ∧ w'.cell? ⟨pf, 1, none⟩ = some (.string ⟨n.toArray⟩)) (go_keep) (first
    | (go_at_call 83; (with_reducible refine (HS.out _ ?_).mono ?_); (first | exact gr_drew _ _ | exact gr_refl _ _); rintro e w1 ⟨rfl, o1, h1, ch1⟩; have kk1 := ((HP.out.ext (gr_drew _ none)).ch ch1).cells))
  go_wp2
  go_ret
  exact ⟨rfl, o1, h1, (Ch.ext (gr_drew _ _)).trans ch1⟩
/-- Create. -/
theorem rpcreate_any (h : RS w0 w r O S) (hn : n.length ≤ 1000000000) (hfl : S.L.length ≤ 900000) :
    Calls Tryz.prog 53 #[.pointer (some ⟨r, 0, none⟩), .string ⟨n.toArray⟩] w fun e w' => ∃ O', RS w0 w' r O' (S.create n).1 ∧ Ch O w O' w' ∧
      (((S.create n).2 = 0 ∧ ∃ pf, e = .returned (.tuple #[.pointer (some ⟨pf, 0, none⟩), .int .i64 0]) ∧ w.heap.size ≤ pf ∧ RpR w' w0.heap.size O' r pf n) ∨ ((S.create n).2 ≠ 0 ∧ e = .returned (.tuple #[.pointer none, .int .i64 (S.create n).2]))) := by
  have hC := Lib.hid (rcreate_any h n hn hfl)
  clear h
  generalize S.create n = X at *
  obtain ⟨S1, q⟩ := X
  by_cases hq : q = 0
  · subst hq
    go_enter Tryz.func53, Tryz.ntmps53
    go_wp2_with fail
    refine hC.out.mono ?_
    rintro e w1 ⟨rfl, O1, h1, ch1⟩
    have H1 := Lib.hid h1
    have C1 := Lib.hid ch1
    have HBX := Lib.hid (Blk.new w1 150 #[.pointer (some ⟨r, 0, none⟩), .string ⟨n.toArray⟩])
    have GA := Lib.hid (gr_alloc w1 (.cells #[.pointer (some ⟨r, 0, none⟩), .string ⟨n.toArray⟩] 150) none)
    clear h1 ch1
    go_wp2_with fail
    go_ret2
    exact ⟨O1, H1.out.ext GA.out, C1.out.trans (Ch.ext GA.out), .inl ⟨trivial, _, rfl, C1.out.size, HBX.out, H1.out.fresh (Nat.le_refl _), H1.out.gr.size⟩⟩
  · have hqe : ((q : Int) == 0) = false := by rw [beq_eq_false_iff_ne]; omega
    have HQ : Hid (q ≠ 0) := hq
    clear hq
    go_enter Tryz.func53, Tryz.ntmps53
    go_wp2_with fail
    refine hC.out.mono ?_
    rintro e w1 ⟨rfl, O1, h1, ch1⟩
    have H1 := Lib.hid h1
    have C1 := Lib.hid ch1
    clear h1 ch1
    go_wp2_with fail
    go_ret2
    exact ⟨O1, H1.out, C1.out, .inr ⟨HQ.out, rfl⟩⟩
def RpOpenO (w0 : World) (o : Own1) (r : Nat) (n : List UInt8) (X : Nat × Nat) (w : World) (e : Ending) (w' : World) : Prop := w.grownBy w' none ∧
  ((X.2 ≠ 0 ∧ e = .returned (.tuple #[.pointer none, .int .i64 X.2])) ∨ (X.2 = 0 ∧ ∃ pf, e = .returned (.tuple #[.pointer (some ⟨pf, 0, none⟩), .int .i64 0]) ∧ w.heap.size ≤ pf ∧ RpR w' w0.heap.size o r pf n))
theorem rpopen_any (h : RS w0 w r O S) (hn : n.length ≤ 1000000000) :
    Calls Tryz.prog 55 #[.pointer (some ⟨r, 0, none⟩), .string ⟨n.toArray⟩] w (RpOpenO w0 O r n (S.pgs n) w) := by
  have hz := (rrsize_le h n).1
  have HS := Lib.hid (rsize_any h n hn)
  have hX : S.pgs n = if (S.size n).2 ≠ 0 then (0, (S.size n).2) else if (S.size n).1 % 256 ≠ 0 then (0, 7) else ((S.size n).1 / 256, 0) := rfl
  have H := Lib.hid h
  clear h
  generalize S.pgs n = X at *
  generalize S.size n = Z at *
  obtain ⟨z, q⟩ := Z
  by_cases hq : q = 0
  · subst hq
    rw [if_neg (by simp)] at hX
    have hz2 : z ≤ 16777216 := hz
    by_cases hm : z % 256 = 0
    · rw [if_neg (by simpa using hm)] at hX
      have HX := Lib.hid hX
      have hmi : ((z : Int) % 256 == 0) = true := by rw [beq_iff_eq]; omega
      have hmj : Int.tmod (z : Int) 256 = 0 := by rw [Int.tmod_eq_emod_of_nonneg (by omega)]; omega
      have HBX := Lib.hid (fun wx => Blk.new wx 150 #[.pointer (some ⟨r, 0, none⟩), .string ⟨n.toArray⟩])
      clear hX hm hz
      go_enter Tryz.func55, Tryz.ntmps55
      go_wp2_with fail
      refine HS.out.mono ?_
      rintro e w1 ⟨rfl, g1⟩
      have G1 := Lib.hid g1
      clear g1
      have GA := Lib.hid (gr_alloc w1 (.cells #[.pointer (some ⟨r, 0, none⟩), .string ⟨n.toArray⟩] 150) none)
      go_wp2_with fail
      go_ret2
      rw [HX.out]
      exact ⟨gr_none G1.out GA.out, .inr ⟨rfl, _, rfl, G1.out.size, HBX.out w1, (H.out.ext G1.out).fresh (Nat.le_refl _), (H.out.ext G1.out).gr.size⟩⟩
    · rw [if_pos (by simpa using hm)] at hX
      have HX := Lib.hid hX
      have hmj : ((Int.tmod (z : Int) 256) == 0) = false := by rw [beq_eq_false_iff_ne, Int.tmod_eq_emod_of_nonneg (by omega)]; omega
      have hmk : ((z : Int) % 256 == 0) = false := by rw [beq_eq_false_iff_ne]; omega
      clear hX hm hz
      go_enter Tryz.func55, Tryz.ntmps55
      go_wp2_with fail
      refine HS.out.mono ?_
      rintro e w1 ⟨rfl, g1⟩
      have G1 := Lib.hid g1
      clear g1
      go_wp2_with fail
      go_ret2
      rw [HX.out]
      exact ⟨G1.out, .inl ⟨by simp, rfl⟩⟩
  · rw [if_pos hq] at hX
    have HX := Lib.hid hX
    have hqe : ((q : Int) == 0) = false := by rw [beq_eq_false_iff_ne]; omega
    have HQ : Hid (q ≠ 0) := hq
    clear hX hq hz
    go_enter Tryz.func55, Tryz.ntmps55
    go_wp2_with fail
    refine HS.out.mono ?_
    rintro e w1 ⟨rfl, g1⟩
    have G1 := Lib.hid g1
    clear g1
    go_wp2_with fail
    go_ret2
    rw [HX.out]
    exact ⟨G1.out, .inl ⟨HQ.out, rfl⟩⟩
end
end Go.Proofs.YtipankjajdpiiaaGreat

/- The document's files of pages: Read, Write, Bad. -/
namespace Go.Proofs.YtipankjajdpiiaaGreat
open Go.RowKit Go.Maps
set_option maxRecDepth 100000
set_option maxHeartbeats 400000

def RD.badB (S : RD) (nm : List UInt8) (k : Nat) : Bool := decide ((S.pread nm k).2 ≠ 0)
def RD.badL (S : RD) (nm : List UInt8) (np : Nat) : List Nat := (List.range np).filter (S.badB nm)
theorem rbadL_succ (S : RD) (nm : List UInt8) (k : Nat) : S.badL nm (k + 1) = S.badL nm k ++ if S.badB nm k = true then [k] else [] := by
  unfold RD.badL
  rw [List.range_succ, List.filter_append]
  congr 1
  by_cases h : S.badB nm k = true
  · rw [if_pos h]; simp [h]
  · rw [if_neg h]; simp [h]
theorem rbadL_len (S : RD) (nm : List UInt8) (k : Nat) : (S.badL nm k).length ≤ k := by
  unfold RD.badL
  have := List.length_filter_le (S.badB nm) (List.range k)
  simpa using this
theorem rread_fine {S : RD} {n : List UInt8} (h : (S.size n).2 = 0) {off k : Int} (ho : 0 ≤ off) (hk : 0 ≤ k) : (S.read n off k).2 = 0 := by
  unfold RD.size at h
  unfold RD.read
  split at h
  · cases h
  · next h1 =>
    rw [if_neg h1]
    split at h
    · cases h
    · next h2 =>
      rw [if_neg (by rintro (h9 | h9 | h9); exact h2 h9; omega; omega)]
      cases hf : S.find n with
      | none => rw [hf] at h; cases h
      | some f => rfl
/-- append(v, x), one whole number. -/
theorem wp_app1J {ops : Array Oper} {rest : List Oper} {o : Oper} {a : Act} {Q : Exit → Act → World → Prop} {w : World} (r : Int) (hgd : o.guard = none) (s0 x0 : Operand)
    (ho : o.op = .call { callee := .builtin .append, args := #[s0, x0], argTypes := #[39, 39] }) {B : Nat} {v : Value} {l : List Int} (hs : a.eval s0 = v) (hown : OwnI w B v l)
    (g : Nat) (hx : a.eval x0 = .slice (some ⟨g, 0, none⟩) 1 1) (hg : g = w.heap.size) (hn : l.length ≤ 1000000000) (hB : B ≤ w.heap.size)
    (h : ∀ v' w', OwnI w' B v' (l ++ [r]) → w.grownBy w' v.ownBlock → (v'.ownBlock = v.ownBlock ∨ ∃ k, v'.ownBlock = some k ∧ w.heap.size ≤ k) → wpList Tryz.prog ops Q rest (a.put o.dst v') w') :
    wpList Tryz.prog ops Q (o :: rest) a (w.alloc (.cells #[.int .i64 r] 3)) := by
  subst hg
  exact wp_app1 w #[.int .i64 r] hgd s0 x0 _ ho B 3 _ 1 8 Tryz.underlying39 Tryz.infoI rfl (by omega) v _ _ hs hown hx rfl (int_one [r]) (by unfold maxLen; omega) (by omega) hB
    fun v' w' h1 h2 h3 => h v' w' (own_appI (m := [r]) h1) h2 h3
section
variable {w0 w w' : World} {B r pf : Nat} {o o' O O' : Own1} {S R : RD} {n : List UInt8}
set_option maxHeartbeats 4000000 in
theorem rpread_any (h : RS w0 w r O S) (hp : RpR w B O r pf n) (hn : n.length ≤ 1000000000) (k : Int) (hk : -9223372036854775808 ≤ k ∧ k ≤ 9223372036854775807) :
    Calls Tryz.prog 56 #[.pointer (some ⟨pf, 0, none⟩), .int .i64 k] w fun e w' => (∃ v, e = .returned (.tuple #[v, .int .i64 (S.pread n k).2]) ∧ OwnB w' w.heap.size v (S.pread n k).1) ∧ w.grownBy w' none := by
  have HP : Hid (Calls Tryz.prog 59 #[.pointer (some ⟨pf, 0, none⟩)] w fun e w' => e = .returned (.tuple #[.int .i64 (S.ppages n).1, .int .i64 (S.ppages n).2]) ∧ w.grownBy w' none) := rpages_any h hp hn
  have hsz := (rrsize_le h n)
  have HK : Hid (∀ wx, w.grownBy wx none → wx.cell? ⟨pf, 0, none⟩ = some (.pointer (some ⟨r, 0, none⟩)) ∧ wx.cell? ⟨pf, 1, none⟩ = some (.string ⟨n.toArray⟩)) := fun wx hg => (hp.ext hg).cells
  have HR : Hid (∀ wx (N : Int), N = k * 256 → w.grownBy wx none → 0 ≤ k → k ≤ 65535 → Calls Tryz.prog 80 #[.pointer (some ⟨r, 0, none⟩), .string ⟨n.toArray⟩, .int .i64 N, .int .i64 256] wx fun e w' =>
      (∃ v, e = .returned (.tuple #[v, .int .i64 (S.read n (k * 256) 256).2]) ∧ OwnB w' wx.heap.size v (S.read n (k * 256) 256).1) ∧ wx.grownBy w' none) := fun wx N hN hg h1 h2 => by
    subst hN
    exact rread_any (h.ext hg) n hn (k * 256) 256 (by omega) (by omega)
  have HX : Hid (S.pread n k = if k < 0 then ([], 1) else if (S.ppages n).2 ≠ 0 then ([], (S.ppages n).2) else if (((S.ppages n).1 : Nat) : Int) ≤ k then ([], 3) else
    match pagO (S.read n (k * 256) 256).1 (crcS n) k.toNat with
    | none => ([], 7)
    | some b => (b, 0)) := rfl
  have HF : Hid ((S.ppages n).2 = 0 → 0 ≤ k → (S.read n (k * 256) 256).2 = 0) := fun e hk => rread_fine e (by omega) (by omega)
  have hpp : (S.ppages n).1 ≤ 65536 := by unfold RD.ppages; omega
  have hct : crcS n < 4294967296 := crcE_lt _ _
  have HTG := Lib.hid (rtag_any n hn)
  clear h hp hsz
  generalize S.pread n k = R at *
  generalize (S.ppages n).1 = a at *
  generalize (S.ppages n).2 = b at *
  generalize crcS n = tag at *
  by_cases h1 : k < 0
  · have HX2 : Hid (R = ([], 1)) := by show _ = _; rw [HX.out, if_pos h1]
    rw [HX2.out]
    clear HX HX2
    go_enter Tryz.func56, Tryz.ntmps56
    go_wp2
    go_ret2
    exact ⟨⟨_, rfl, OwnB.nil _ _⟩, gr_refl _ _⟩
  by_cases h2 : b ≠ 0
  · have HX2 : Hid (R = ([], b)) := by show _ = _; rw [HX.out, if_neg h1, if_pos h2]
    rw [HX2.out]
    have hb0 : ((b : Int) != 0) = true := by rw [bne_iff_ne]; omega
    have hb1 : ((b : Int) == 0) = false := by rw [beq_eq_false_iff_ne]; omega
    clear HX HX2 h2
    go_enter Tryz.func56, Tryz.ntmps56
    go_wp2_with fail
    refine HP.out.mono ?_
    rintro e w1 ⟨rfl, g1⟩
    go_wp2
    go_ret2
    exact ⟨⟨_, rfl, OwnB.nil _ _⟩, g1⟩
  obtain rfl : b = 0 := by omega
  obtain ⟨kn, rfl⟩ : ∃ kn : Nat, k = (kn : Int) := ⟨k.toNat, by omega⟩
  by_cases h3 : (a : Int) ≤ (kn : Int)
  · have HX2 : Hid (R = ([], 3)) := by show _ = _; rw [HX.out, if_neg h1, if_neg h2, if_pos h3]
    rw [HX2.out]
    clear HX HX2 h2
    go_enter Tryz.func56, Tryz.ntmps56
    go_wp2_with fail
    refine HP.out.mono ?_
    rintro e w1 ⟨rfl, g1⟩
    go_wp2
    go_ret2
    exact ⟨⟨_, rfl, OwnB.nil _ _⟩, g1⟩
  have HX2 : Hid (R = match pagO (S.read n ((kn : Int) * 256) 256).1 tag kn with
    | none => ([], 7)
    | some b => (b, 0)) := by show _ = _; rw [HX.out, if_neg h1, if_neg h2, if_neg h3, Int.toNat_natCast]
  have HF2 := Lib.hid (HF.out rfl (by omega))
  have hk5 : (kn : Int) ≤ 65535 := by omega
  rw [HF2.out] at HR
  clear HX HF HF2 h2 h1
  generalize (S.read n ((kn : Int) * 256) 256).1 = p at *
  have hw1 : IntKind.i64.wrap (256 * (kn : Int)) = 256 * (kn : Int) := by rw [IntWalk.i64_in _ (by omega)]
  have hlt : (kn : Int) < (a : Int) := by omega
  have hk0 : (0 : Int) ≤ (kn : Int) := by omega
  have HOP : Hid (∀ (v : Value) (wx : World), RdB wx v p → Calls Tryz.prog 97 #[v, .int .u32 tag, .int .u32 kn] wx (OpnOut wx (pagO p tag kn))) := fun v wx hv => ropn_any tag kn hct (by omega) v p wx hv
  have HW := Lib.hid hw1
  clear hw1
  go_enter Tryz.func56, Tryz.ntmps56
  go_wp2_with fail
  refine HP.out.mono ?_
  rintro e w1 ⟨rfl, g1⟩
  have G1 := Lib.hid g1
  have kk := HK.out w1 g1
  have hw1 := HW.out
  clear g1
  go_wp2
  go_region_held3 (fun w' => w'.cell? ⟨pf, 0, none⟩ = some (.pointer (some ⟨r, 0, none⟩)) ∧ w'.cell? ⟨pf, 1, none⟩ = some (.string ⟨n.toArray⟩)) (go_keep) (first
    | (go_at_call 80; (with_reducible refine (HR.out _ _ (Int.mul_comm _ _) ?_ hk0 hk5).mono ?_); (first | exact gr_none G1.out (gr_drew _ _) | exact G1.out); rintro e w2 ⟨⟨v2, rfl, o2⟩, g2⟩; have kk1 := HK.out _ (gr_none (gr_none G1.out (gr_drew _ _)) g2)))
  have G2 := Lib.hid (gr_none (gr_none G1.out (gr_drew _ none)) g2)
  have O2 := Lib.hid o2
  clear g2 o2 hw1
  go_wp2_with fail
  refine (HTG.out _).mono ?_
  rintro e w9 ⟨rfl, g9⟩
  have G9 := Lib.hid g9
  clear g9
  go_wp2_with fail
  refine (HOP.out _ _ (O2.out.rd.ext G9.out)).mono ?_
  rintro e w3 ⟨g3, hout⟩
  have G3 := Lib.hid (gr_none (gr_none G2.out G9.out) g3)
  have HO : Hid (∃ v', e = .returned (.tuple #[v', .int .i64 R.2]) ∧ OwnB w3 w.heap.size v' R.1) := by
    rcases hout with ⟨b, v', hr, he, ho⟩ | ⟨hr, he⟩
    · rw [hr] at HX2
      rw [HX2.out]
      exact ⟨v', he, ho.mono (gr_none G2.out G9.out).size⟩
    · rw [hr] at HX2
      rw [HX2.out]
      exact ⟨_, he, OwnB.nil _ _⟩
  clear hout g3
  obtain ⟨v', rfl, ho⟩ := HO.out
  have HO2 := Lib.hid ho
  clear ho
  go_wp2
  go_ret2
  exact ⟨⟨_, rfl, HO2.out⟩, G3.out⟩
set_option maxHeartbeats 4000000 in
theorem rpwrite_any (h : RS w0 w r O S) (hup : Up S) (hp : RpR w B O r pf n) (hn : n.length ≤ 1000000000) (k : Int) (hk : -9223372036854775808 ≤ k ∧ k ≤ 9223372036854775807) (bv : Value) (b : List UInt8) (hb : RdB w bv b) (hbn : b.length ≤ 1000000000) :
    Calls Tryz.prog 57 #[.pointer (some ⟨pf, 0, none⟩), .int .i64 k, bv] w fun e w' => e = .returned (.int .i64 (S.pwrite n k b).2) ∧ RSn w0 r O (S.pwrite n k b).1 w w' := by
  obtain ⟨Ab, cb, rfl⟩ := hb.form
  have HP : Hid (Calls Tryz.prog 59 #[.pointer (some ⟨pf, 0, none⟩)] w fun e w' => e = .returned (.tuple #[.int .i64 (S.ppages n).1, .int .i64 (S.ppages n).2]) ∧ w.grownBy w' none) := rpages_any h hp hn
  have hsz := (rrsize_le h n)
  have H := Lib.hid h
  have HPF := Lib.hid hp
  have HB := Lib.hid hb
  have HUP := Lib.hid hup
  have HX : Hid (S.pwrite n k b = if k < 0 then (S, 1) else if 240 < b.length then (S, 9) else if (S.ppages n).2 ≠ 0 then (S, (S.ppages n).2) else if (((S.ppages n).1 : Nat) : Int) < k then (S, 1) else
    S.write n (k * 256) (pagB (crcS n) k.toNat b)) := rfl
  have hpp : (S.ppages n).1 ≤ 65536 := by unfold RD.ppages; omega
  have hct : crcS n < 4294967296 := crcE_lt _ _
  have HTG := Lib.hid (rtag_any n hn)
  clear h hp hb hsz hup
  generalize S.pwrite n k b = R at *
  generalize (S.ppages n).1 = a at *
  generalize (S.ppages n).2 = q at *
  by_cases h1 : k < 0
  · have HX2 : Hid (R = (S, 1)) := by show _ = _; rw [HX.out, if_pos h1]
    rw [HX2.out]
    clear HX HX2
    go_enter Tryz.func57, Tryz.ntmps57
    go_wp2
    go_ret
    exact ⟨rfl, O, H.out, Ch.refl _ _⟩
  by_cases h2 : 240 < b.length
  · have HX2 : Hid (R = (S, 9)) := by show _ = _; rw [HX.out, if_neg h1, if_pos h2]
    rw [HX2.out]
    have h1' : (0 : Int) ≤ k := by omega
    clear HX HX2 h1
    go_enter Tryz.func57, Tryz.ntmps57
    go_wp2
    go_ret
    exact ⟨rfl, O, H.out, Ch.refl _ _⟩
  have h2' : b.length ≤ 240 := by omega
  by_cases h3 : q ≠ 0
  · have HX2 : Hid (R = (S, q)) := by show _ = _; rw [HX.out, if_neg h1, if_neg h2, if_pos h3]
    rw [HX2.out]
    have hb0 : ((q : Int) != 0) = true := by rw [bne_iff_ne]; omega
    have hb1 : ((q : Int) == 0) = false := by rw [beq_eq_false_iff_ne]; omega
    have h1' : (0 : Int) ≤ k := by omega
    clear HX HX2 h3 h1 h2
    go_enter Tryz.func57, Tryz.ntmps57
    go_wp2_with fail
    refine HP.out.mono ?_
    rintro e w1 ⟨rfl, g1⟩
    have G1 := Lib.hid g1
    clear g1
    go_wp2
    go_ret
    exact ⟨rfl, O, H.out.ext G1.out, Ch.ext G1.out⟩
  obtain rfl : q = 0 := by omega
  obtain ⟨kn, rfl⟩ : ∃ kn : Nat, k = (kn : Int) := ⟨k.toNat, by omega⟩
  by_cases h4 : (a : Int) < (kn : Int)
  · have HX2 : Hid (R = (S, 1)) := by show _ = _; rw [HX.out, if_neg h1, if_neg h2, if_neg h3, if_pos h4]
    rw [HX2.out]
    clear HX HX2 h3 h1 h2
    go_enter Tryz.func57, Tryz.ntmps57
    go_wp2_with fail
    refine HP.out.mono ?_
    rintro e w1 ⟨rfl, g1⟩
    have G1 := Lib.hid g1
    clear g1
    go_wp2
    go_ret
    exact ⟨rfl, O, H.out.ext G1.out, Ch.ext G1.out⟩
  have HX2 : Hid (R = S.write n ((kn : Int) * 256) (pagB (crcS n) kn b)) := by show _ = _; rw [HX.out, if_neg h1, if_neg h2, if_neg h3, if_neg h4, Int.toNat_natCast]
  have hk5 : (kn : Int) ≤ 65536 := by omega
  have hk0 : (0 : Int) ≤ (kn : Int) := by omega
  rw [HX2.out]
  have HL : Hid ((pagB (crcS n) kn b).length = 256) := pagB_len h2'
  have HMK : Hid (∀ wx, w.grownBy wx none → Calls Tryz.prog 99 #[.int .u32 (crcS n), .int .u32 kn, .slice Ab b.length cb] wx fun e w' => (∃ v', e = .returned (.tuple #[v', .int .i64 0]) ∧ OwnB w' wx.heap.size v' (pagB (crcS n) kn b)) ∧ wx.grownBy w' none) := fun wx hg =>
    rmk_any (crcS n) kn hct (by omega) _ b wx (HB.out.ext hg) h2'
  have HWR : Hid (∀ (wx : World) (v : Value) (B1 : Nat) (N : Int), N = (kn : Int) * 256 → w.grownBy wx none → w.heap.size ≤ B1 → OwnB wx B1 v (pagB (crcS n) kn b) → Calls Tryz.prog 36 #[.pointer (some ⟨r, 0, none⟩), .string ⟨n.toArray⟩, .int .i64 N, v] wx fun e w' => e = .returned (.int .i64 (S.write n ((kn : Int) * 256) (pagB (crcS n) kn b)).2) ∧ RSn w0 r O (S.write n ((kn : Int) * 256) (pagB (crcS n) kn b)).1 wx w') := fun wx v B1 N hN hg hB1 ho => by
    subst hN
    obtain ⟨A3, c3, e3⟩ := RdB.form (OwnB.rd ho)
    subst e3
    exact rwrite_any (H.out.ext hg) HUP.out.nodup n hn _ (by omega) (fun O1 w1 hc => hc.rd ho.rd fun j hj => by
      have hj2 := Own.blk_lt ho (by omega) hj
      exact ⟨hj2.2, H.out.fresh (by omega)⟩) (by rw [HL.out]; omega)
  clear HX HX2 h3 h1 h2 HL
  have HKC : Hid (∀ wx, w.grownBy wx none → wx.cell? ⟨pf, 0, none⟩ = some (.pointer (some ⟨r, 0, none⟩)) ∧ wx.cell? ⟨pf, 1, none⟩ = some (.string ⟨n.toArray⟩)) := fun wx hg => (HPF.out.ext hg).cells
  generalize S.write n ((kn : Int) * 256) (pagB (crcS n) kn b) = X at *
  generalize pagB (crcS n) kn b = P at *
  generalize crcS n = tag at *
  have hw1 : IntKind.i64.wrap (256 * (kn : Int)) = 256 * (kn : Int) := by rw [IntWalk.i64_in _ (by omega)]
  have HW := Lib.hid hw1
  have hlt : (kn : Int) ≤ (a : Int) := by omega
  clear hw1
  go_enter Tryz.func57, Tryz.ntmps57
  go_wp2_with fail
  refine HP.out.mono ?_
  rintro e w1 ⟨rfl, g1⟩
  have G1 := Lib.hid g1
  have kk := HKC.out w1 g1
  clear g1
  go_wp2_with fail
  refine (HTG.out _).mono ?_
  rintro e w9 ⟨rfl, g9⟩
  have G9 := Lib.hid (gr_none G1.out g9)
  have kk9 := HKC.out w9 G9.out
  clear g9 kk
  go_wp2_with fail
  refine (HMK.out _ G9.out).mono ?_
  rintro e w2 ⟨⟨v2, rfl, o2⟩, g2⟩
  have G2 := Lib.hid (gr_none G9.out g2)
  have O2 := Lib.hid (o2.mono G9.out.size)
  have kk2 := HKC.out w2 G2.out
  have hw1 := HW.out
  clear o2 g2
  go_wp2
  go_region_held3 (fun w' => w'.cell? ⟨pf, 0, none⟩ = some (.pointer (some ⟨r, 0, none⟩)) ∧ w'.cell? ⟨pf, 1, none⟩ = some (.string ⟨n.toArray⟩)) (go_keep) (first
    | (go_at_call 36; (with_reducible refine (HWR.out _ _ _ _ (Int.mul_comm _ _) ?_ (Nat.le_refl _) ?_).mono ?_); (first | exact gr_none G2.out (gr_drew _ _) | exact G2.out); (first | exact O2.out.ext (gr_drew _ _) | exact O2.out); rintro e w3 ⟨rfl, o3, h3, ch3⟩; have kk3 := ((HPF.out.ext (gr_none G2.out (gr_drew _ none))).ch ch3).cells))
  go_wp2
  go_ret
  exact ⟨rfl, o3, h3, (Ch.ext (gr_none G2.out (gr_drew _ none))).trans ch3⟩
set_option maxHeartbeats 4000000 in
theorem rpbad_any (h : RS w0 w r O S) (hn : n.length ≤ 1000000000) :
    Calls Tryz.prog 60 #[.pointer (some ⟨r, 0, none⟩), .string ⟨n.toArray⟩] w fun e w' => ((S.pgs n).2 ≠ 0 ∧ e = .returned (.tuple #[.slice none 0 0, .int .i64 (S.pgs n).2]) ∨ (S.pgs n).2 = 0 ∧ ∃ v, e = .returned (.tuple #[v, .int .i64 0]) ∧ OwnI w' w.heap.size v ((S.badL n (S.pgs n).1).map Int.ofNat)) ∧ w.grownBy w' none := by
  have HO := Lib.hid (rpopen_any h hn)
  have H := Lib.hid h
  have hsz := (rrsize_le h n).1
  have HB0 : Hid (w0.heap.size ≤ w.heap.size) := h.gr.size
  clear h
  by_cases hq : (S.pgs n).2 = 0
  · have hpg : S.ppages n = ((S.pgs n).1, 0) := by
      unfold RD.pgs at hq ⊢
      unfold RD.ppages
      split at hq
      · next h1 => exact absurd hq h1
      · next h1 =>
        rw [if_neg h1]
        split at hq
        · cases hq
        · next h2 => rw [if_neg h2]; simp at h1; rw [h1]
    obtain ⟨np, hnp⟩ : ∃ np, np = (S.pgs n).1 := ⟨_, rfl⟩
    rw [← hnp] at hpg
    have hnp2 : np ≤ 65536 := by
      have : np = (S.size n).1 / 256 := (congrArg Prod.fst hpg).symm
      omega
    have HPG := Lib.hid (fun wx pf (hg : w.grownBy wx none) (hp : RpR wx w0.heap.size O r pf n) => rpages_any (H.out.ext hg) hp hn)
    rw [hpg] at HPG
    have HRD : Hid (∀ wx pf (k : Nat), w.grownBy wx none → RpR wx w0.heap.size O r pf n → k < np → Calls Tryz.prog 56 #[.pointer (some ⟨pf, 0, none⟩), .int .i64 (k : Int)] wx fun e w' => (∃ v, e = .returned (.tuple #[v, .int .i64 (S.pread n k).2]) ∧ OwnB w' wx.heap.size v (S.pread n k).1) ∧ wx.grownBy w' none) := fun wx pf k hg hp hk => rpread_any (H.out.ext hg) hp hn (k : Int) (by omega)
    have HQ := Lib.hid hq
    have HNP := Lib.hid hnp
    clear hq hnp hpg hsz
    go_enter Tryz.func60, Tryz.ntmps60
    go_wp2_with fail
    refine HO.out.mono ?_
    rintro e w1 ⟨g1, hh⟩
    obtain ⟨pf, rfl, hpf, hp⟩ : ∃ pf, e = .returned (.tuple #[.pointer (some ⟨pf, 0, none⟩), .int .i64 0]) ∧ w.heap.size ≤ pf ∧ RpR w1 w0.heap.size O r pf n := by
      rcases hh with ⟨h1, _⟩ | ⟨_, h2⟩
      · exact absurd HQ.out h1
      · exact h2
    have G1 := Lib.hid g1
    have HPF := Lib.hid hp
    clear hh g1 hp
    go_wp2_with fail
    refine (HPG.out w1 pf G1.out HPF.out).mono ?_
    rintro e w2 ⟨rfl, g2⟩
    have G2 := Lib.hid g2
    clear g2
    go_wp2_with fail
    go_loopw [10, 11] (fun v iv wr => ∃ (k m : Nat) (A : Option Addr) (c : Nat), k ≤ np ∧ iv = .int .i64 (k : Nat) ∧ v = .slice A m c ∧ m = (S.badL n k).length ∧ OwnI wr w2.heap.size (.slice A m c) ((S.badL n k).map Int.ofNat) ∧ w2.grownBy wr none) (fun _ iv _ => np - (intOf iv).toNat)
    case atStart => exact ⟨0, 0, none, 0, Nat.zero_le _, rfl, rfl, rfl, Own.nil _ _ _, gr_refl _ _⟩
    case round =>
      obtain ⟨k, m, A, c, hk, rfl, rfl, hm, ho, hg⟩ := hrel
      rename World => wo
      have HM := Lib.hid hm
      have HO9 := Lib.hid ho
      have HG := Lib.hid hg
      have hml : m ≤ 65536 := by have := rbadL_len S n k; omega
      clear hm ho hg
      by_cases hlt : k < np
      · have HR1 := Lib.hid (HRD.out wo pf k (gr_none G1.out (gr_none G2.out HG.out)) (HPF.out.ext (gr_none G2.out HG.out)) hlt)
        have HBS := Lib.hid (rbadL_succ S n k)
        have HBB : Hid (S.badB n k = decide ((S.pread n k).2 ≠ 0)) := rfl
        have hki : (k : Int) < (np : Int) := by omega
        obtain ⟨er, her⟩ : ∃ er, er = (S.pread n k).2 := ⟨_, rfl⟩
        obtain ⟨rb, hrb⟩ : ∃ rb, rb = (S.pread n k).1 := ⟨_, rfl⟩
        rw [← her] at HBB
        rw [← her, ← hrb] at HR1
        clear her hrb
        by_cases he : er = 0
        · have hei : ((er : Int) == 0) = true := by rw [he]; rfl
          have HB1 : Hid (S.badL n (k + 1) = S.badL n k) := by show _ = _; rw [HBS.out, HBB.out, he]; simp
          clear he
          go_wp2_with fail
          refine HR1.out.mono ?_
          rintro e w3 ⟨⟨v3, rfl, o3⟩, g3⟩
          obtain ⟨A3, c3, e3⟩ := RdB.form (OwnB.rd o3)
          subst e3
          have G3 := Lib.hid g3
          clear o3 g3
          go_wp2_with fail
          go_roundw
          case rel => exact ⟨k + 1, m, A, c, by omega, by go_num, rfl, by rw [HB1.out]; exact HM.out, by rw [HB1.out]; exact HO9.out.ext G3.out, gr_none HG.out G3.out⟩
          case measure => simp [intOf] <;> omega
        · have hei : ((er : Int) == 0) = false := by rw [beq_eq_false_iff_ne]; omega
          have HB1 : Hid (S.badL n (k + 1) = S.badL n k ++ [k]) := by show _ = _; rw [HBS.out, HBB.out]; simp [he]
          have HLN : Hid (((S.badL n k).map Int.ofNat).length = m) := by show _ = _; rw [List.length_map, HM.out]
          clear he
          go_wp2_with fail
          refine HR1.out.mono ?_
          rintro e w3 ⟨⟨v3, rfl, o3⟩, g3⟩
          obtain ⟨A3, c3, e3⟩ := RdB.form (OwnB.rd o3)
          subst e3
          have G3 := Lib.hid g3
          clear o3 g3
          go_wp2_with (at_builtin; refine wp_app1J (w := w3) (B := w2.heap.size) (v := .slice A m c) (l := (S.badL n k).map Int.ofNat) (k : Int) rfl (.tmp 41) (.tmp 43) rfl rfl (HO9.out.ext G3.out) _ rfl rfl (by rw [HLN.out]; omega) (gr_none HG.out G3.out).size ?_; intro v6 w6 h6 g6 a6; obtain ⟨A6, c6, e6⟩ := RdI.form (Own.rd h6); rw [List.length_append, HLN.out] at e6; subst e6; have G6 : Hid (w2.grownBy w6 none) := gr_trans (gr_none HG.out G3.out) g6 (.inr fun q e => Own.lt HO9.out q e); have H6 := Lib.hid h6; clear h6 g6 a6)
          go_roundw
          case rel => exact ⟨k + 1, m + 1, A6, c6, by omega, by go_num, rfl, by rw [HB1.out, List.length_append, ← HM.out]; rfl, by rw [HB1.out, List.map_append]; exact H6.out, G6.out⟩
          case measure => simp [intOf] <;> omega
      · obtain rfl : k = np := by omega
        have hki : ¬ (k : Int) < (k : Int) := by omega
        go_wp2_with fail
        go_ret2
        exact ⟨.inr ⟨HQ.out, _, rfl, by rw [← HNP.out]; exact Own.mono HO9.out (Nat.le_trans G1.out.size G2.out.size)⟩, gr_none G1.out (gr_none G2.out HG.out)⟩
  · have HQ : Hid ((S.pgs n).2 ≠ 0) := hq
    have hqe : (((S.pgs n).2 : Int) == 0) = false := by rw [beq_eq_false_iff_ne]; omega
    generalize S.pgs n = X at *
    obtain ⟨x1, x2⟩ := X
    clear hq hsz
    go_enter Tryz.func60, Tryz.ntmps60
    go_wp2_with fail
    refine HO.out.mono ?_
    rintro e w1 ⟨g1, hh⟩
    obtain rfl : e = .returned (.tuple #[.pointer none, .int .i64 (x2 : Nat)]) := by
      rcases hh with ⟨_, h1⟩ | ⟨h2, _⟩
      · exact h1
      · exact absurd h2 HQ.out
    have G1 := Lib.hid g1
    clear hh g1
    go_wp2_with fail
    go_ret2
    exact ⟨.inl ⟨HQ.out, rfl⟩, G1.out⟩
end
end Go.Proofs.YtipankjajdpiiaaGreat
