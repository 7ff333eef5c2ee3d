/-
  The disk's operations where the power stays.
-/
import Derived.Test.YtkpmadahfmpeiaaGreatDw7
import Derived.Test.YtkpmadahfmpeiaaGreatDw8
import Derived.Test.YtkpmadahfmpeiaaGreatPgP
import Derived.Test.YtkpmadahfmpeiaaGreatDk
import Derived.Test.YtkpmadahfmpeiaaGreatPgO
namespace Go.Proofs.YtkpmadahfmpeiaaGreat
open Go.RowKit
set_option maxRecDepth 100000
set_option maxHeartbeats 400000

/-- the power stays. -/
def Idle (S : Dk) : Prop := S.armed = 0 ∧ S.dead = false
theorem Idle.begin {S : Dk} (h : Idle S) : S.begin = S := begin_idle S h.1
theorem find_setF (fs : List Fi) (n s : List UInt8) {g : Fi → Fi} (hg : ∀ f, (g f).name = f.name) : (setF fs n g).find? (fun f => f.name == s) = (fs.find? fun f => f.name == s).map fun f => if f.name = n then g f else f := by
  unfold setF
  rw [List.find?_map]
  congr 1
  congr 1
  funext f
  by_cases e : f.name = n
  · simp [e, hg]
  · simp [e]
theorem size_idle {S : Dk} {f : Fi} {n : List UInt8} (hi : Idle S) (hr : rightB n = true) (hf : S.find n = some f) : S.size n = (f.now.length, 0) := by unfold Dk.size; rw [hi.2, hr, hf]; rfl
theorem size_none {S : Dk} {n : List UInt8} (hi : Idle S) (hr : rightB n = true) (hf : S.find n = none) : S.size n = (0, 3) := by unfold Dk.size; rw [hi.2, hr, hf]; rfl
theorem create_idle {S : Dk} {n : List UInt8} (hi : Idle S) (hr : rightB n = true) (hf : S.find n = none) : S.create n = ({ S with fs := S.fs ++ [⟨n, [], []⟩] }, 0) := by
  unfold Dk.create; rw [hi.begin, if_neg (by rw [hi.2]; simp), if_neg (by rw [hr]; simp), hf]; rfl
theorem read_idle {S : Dk} {f : Fi} {n : List UInt8} {p k : Nat} (hi : Idle S) (hr : rightB n = true) (hf : S.find n = some f) : S.read n p k = ((f.now.drop p).take k, 0) := by
  unfold Dk.read
  rw [if_neg (by rw [hi.2]; simp), if_neg (by rw [hr]; simp), hf]
  rfl
theorem cut_idle {S : Dk} {f : Fi} {n : List UInt8} {k : Nat} (hi : Idle S) (hr : rightB n = true) (hf : S.find n = some f) (hk : k ≤ f.now.length) : S.cut n k = (S.cutTo n k, 0) := by
  unfold Dk.cut
  rw [hi.begin, if_neg (by rw [hi.2]; simp), if_neg (by rw [hr]; simp), hf]
  show (if (f.now.length : Int) < (k : Int) then (S, 1) else (S.cutTo n (k : Int).toNat, 0)) = _
  rw [if_neg (by omega), Int.toNat_natCast]
theorem sync_idle {S : Dk} {f : Fi} {n : List UInt8} (hi : Idle S) (hr : rightB n = true) (hf : S.find n = some f) : S.sync n = (S.synced n, 0) := by
  unfold Dk.sync; rw [hi.begin, hi.2, hr, hf]; rfl
theorem write_idle {S : Dk} {f : Fi} {n : List UInt8} {p : Nat} {b : List UInt8} (hi : Idle S) (hr : rightB n = true) (hf : S.find n = some f) (h1 : p ≤ f.now.length) (h2 : p + b.length ≤ 16777216)
    (h3 : ¬ (0 < moreS f p b ∧ (S.quota : Int) < S.used + moreS f p b)) : S.write n p b = (S.wrote n p b, 0) := by
  have := write_ok (S := S) (n := n) (p := p) (b := b) (f := f) (by rw [hi.begin]; exact hi.2) (by rw [hr]; simp) hf (by omega) (by omega) h3
  rw [hi.begin] at this
  exact this
theorem find_cutTo (S : Dk) (n : List UInt8) (k : Nat) (s : List UInt8) : (S.cutTo n k).find s = (S.find s).map fun f => if f.name = n then { f with now := f.now.take k, lasts := f.lasts.take k } else f := find_setF _ _ _ fun _ => rfl
theorem find_synced (S : Dk) (n s : List UInt8) : (S.synced n).find s = (S.find s).map fun f => if f.name = n then { f with lasts := f.now } else f := find_setF _ _ _ fun _ => rfl
theorem find_wrote (S : Dk) (n : List UInt8) (p : Nat) (b s : List UInt8) : (S.wrote n p b).find s = (S.find s).map fun f => if f.name = n then { f with now := overZ f.now p b } else f := find_setF _ _ _ fun _ => rfl
theorem find_added (S : Dk) (n : List UInt8) (hf : S.find n = none) : ({ S with fs := S.fs ++ [⟨n, [], []⟩] } : Dk).find n = some ⟨n, [], []⟩ := by
  unfold Dk.find at hf ⊢
  simp [List.find?_append, hf]
end Go.Proofs.YtkpmadahfmpeiaaGreat

/- A file of pages as plain data. -/
namespace Go.Proofs.YtkpmadahfmpeiaaGreat
set_option maxRecDepth 100000

/-- a page of a file's bytes. -/
def pgA (c : List UInt8) (k : Nat) : List UInt8 := (c.drop (256 * k)).take 256
theorem pgA_len {c : List UInt8} {n k : Nat} (hc : c.length = 256 * n) (hk : k < n) : (pgA c k).length = 256 := by
  unfold pgA; rw [List.length_take, List.length_drop]; omega
theorem pgA_at (c : List UInt8) (k j : Nat) (hj : j < 256) : (pgA c k)[j]? = c[256 * k + j]? := by
  unfold pgA; rw [List.getElem?_take, if_pos hj, List.getElem?_drop]
theorem pgA_ext {p q : List UInt8} (hp : p.length = 256) (hq : q.length = 256) (h : ∀ j, j < 256 → p[j]? = q[j]?) : p = q := by
  apply List.ext_getElem?
  intro j
  by_cases hj : j < 256
  · exact h j hj
  · rw [List.getElem?_eq_none (by omega), List.getElem?_eq_none (by omega)]
theorem overZ_len8 {c p : List UInt8} {o : Nat} (ho : o ≤ c.length) : (overZ c o p).length = max c.length (o + p.length) := by
  unfold overZ; simp only [List.length_append, List.length_take, List.length_drop]; omega
theorem overZ_at {c p : List UInt8} {o : Nat} (ho : o ≤ c.length) (j : Nat) : (overZ c o p)[j]? = if j < o then c[j]? else if j < o + p.length then p[j - o]? else c[j]? := by
  unfold overZ
  rw [List.append_assoc]
  have hl : (c.take o).length = o := by rw [List.length_take]; omega
  by_cases h1 : j < o
  · rw [if_pos h1, List.getElem?_append_left (by omega), List.getElem?_take, if_pos h1]
  · rw [if_neg h1, List.getElem?_append_right (by omega), hl]
    by_cases h2 : j < o + p.length
    · rw [if_pos h2, List.getElem?_append_left (by omega)]
    · rw [if_neg h2, List.getElem?_append_right (by omega), List.getElem?_drop]
      congr 1
      omega
theorem pgA_over {c p : List UInt8} {n k j : Nat} (hc : c.length = 256 * n) (hp : p.length = 256) (hk : k ≤ n) (hj : j < max n (k + 1)) : pgA (overZ c (256 * k) p) j = if j = k then p else pgA c j := by
  have hl : (overZ c (256 * k) p).length = 256 * max n (k + 1) := by rw [overZ_len8 (by omega)]; omega
  by_cases e : j = k
  · rw [if_pos e]
    refine pgA_ext (pgA_len hl hj) hp fun i hi => ?_
    rw [pgA_at _ _ _ hi, overZ_at (by omega), if_neg (by omega), if_pos (by omega)]
    congr 1
    omega
  · rw [if_neg e]
    have hjn : j < n := by omega
    refine pgA_ext (pgA_len hl hj) (pgA_len hc hjn) fun i hi => ?_
    rw [pgA_at _ _ _ hi, pgA_at _ _ _ hi, overZ_at (by omega)]
    by_cases h1 : 256 * j + i < 256 * k
    · rw [if_pos h1]
    · rw [if_neg h1, if_neg (by omega)]
/-- so many pages, each with its bytes. -/
structure Holds (c : List UInt8) (tag n : Nat) (g : Nat → List UInt8) : Prop where
  len : c.length = 256 * n
  at_ : ∀ i, i < n → pagO (pgA c i) tag i = some (g i)
  small : ∀ i, i < n → (g i).length ≤ 240
theorem Holds.nil (tag : Nat) (g : Nat → List UInt8) : Holds [] tag 0 g := ⟨rfl, fun i hi => by omega, fun i hi => by omega⟩
theorem Holds.write {c : List UInt8} {tag n : Nat} {g : Nat → List UInt8} (h : Holds c tag n g) {k : Nat} (hk : k ≤ n) (hk2 : k < 2 ^ 32) (ht : tag < 2 ^ 32) {b : List UInt8} (hb : b.length ≤ 240) :
    Holds (overZ c (256 * k) (pagB tag k b)) tag (max n (k + 1)) (fun i => if i = k then b else g i) := by
  have hp := pagB_len (tag := tag) (k := k) hb
  refine ⟨by rw [overZ_len8 (by have := h.len; omega), hp, h.len]; omega, fun i hi => ?_, fun i hi => ?_⟩
  · rw [pgA_over h.len hp hk hi]
    by_cases e : i = k
    · subst e; rw [if_pos rfl, if_pos rfl, pagO_made hb ht hk2, if_pos rfl]
    · rw [if_neg e, if_neg e]; exact h.at_ i (by omega)
  · by_cases e : i = k
    · rw [if_pos e]; exact hb
    · rw [if_neg e]; exact h.small i (by omega)
theorem Holds.congr {c : List UInt8} {tag n m : Nat} {g g' : Nat → List UInt8} (h : Holds c tag n g) (hm : m = n) (hg : ∀ i, i < n → g' i = g i) : Holds c tag m g' := by
  subst hm
  exact ⟨h.len, fun i hi => by rw [hg i hi]; exact h.at_ i hi, fun i hi => by rw [hg i hi]; exact h.small i hi⟩
/-- at another number it is none. -/
theorem pagO_moved {p : List UInt8} {tag k m : Nat} {b : List UInt8} (h : pagO p tag k = some b) (hm : m ≠ k) : pagO p tag m = none := by
  unfold pagO at h ⊢
  split at h
  · next hh => exact if_neg fun h2 => hm (h2.2.2.2.2.1.symm.trans hh.2.2.2.2.1)
  · cases h
end Go.Proofs.YtkpmadahfmpeiaaGreat

/- Files of pages: what pagefile's functions do with a disk. -/
namespace Go.Proofs.YtkpmadahfmpeiaaGreat
open Go.RowKit
set_option maxRecDepth 100000
set_option maxHeartbeats 400000

/-- a file of pages in memory. -/
structure PfR (w : World) (B : Nat) (o : Own1) (d pf : Nat) (n : List UInt8) : Prop where
  box : Blk w pf 180 #[.pointer (some ⟨d, 0, none⟩), .string ⟨n.toArray⟩, .int .u32 (crcS n)]
  free : o pf = none
  pB : B ≤ pf
section
variable {w w' : World} {B d pf : Nat} {o o' : Own1} {S : Dk} {c : Con} {n : List UInt8}
theorem PfR.ch (h : PfR w B o d pf n) (hc : Ch o w o' w') : PfR w' B o' d pf n := ⟨hc.blk h.box h.free, hc.free _ h.box.lt h.free, h.pB⟩
theorem PfR.ext (h : PfR w B o d pf n) (hg : w.grownBy w' none) : PfR w' B o d pf n := h.ch (Ch.ext hg)
theorem PfR.cells (h : PfR w B o d pf n) : w.cell? ⟨pf, 0, none⟩ = some (.pointer (some ⟨d, 0, none⟩)) ∧ w.cell? ⟨pf, 1, none⟩ = some (.string ⟨n.toArray⟩) ∧ w.cell? ⟨pf, 2, none⟩ = some (.int .u32 (crcS n)) := ⟨h.box.cell 0, h.box.cell 1, h.box.cell 2⟩
theorem made_any (d : Nat) (n : List UInt8) (hn : n.length ≤ 1000000000) (w : World) :
    Calls Tryz.prog 128 #[.pointer (some ⟨d, 0, none⟩), .string ⟨n.toArray⟩] w fun e w' => ∃ pf, e = .returned (.pointer (some ⟨pf, 0, none⟩)) ∧ w.heap.size ≤ pf ∧ Blk w' pf 180 #[.pointer (some ⟨d, 0, none⟩), .string ⟨n.toArray⟩, .int .u32 (crcS n)] ∧ w.grownBy w' none := by
  have HT := Lib.hid (tag_any n hn)
  go_enter Tryz.func128, Tryz.ntmps128
  go_wp2_with fail
  refine (HT.out _).mono ?_
  rintro e w1 ⟨rfl, g1⟩
  have G1 := Lib.hid g1
  clear g1
  go_wp2
  go_ret
  exact ⟨_, rfl, G1.out.size, Blk.new _ _ _, gr_none G1.out (gr_alloc _ _ none)⟩
/-- how many pages, or an error. -/
def Dk.ppages (S : Dk) (n : List UInt8) : Nat × Nat := ((S.size n).1 / 256, (S.size n).2)
theorem size_le (h : DI w B o d S c) (n : List UInt8) : (S.size n).1 ≤ 16777216 ∧ (S.size n).2 ≤ 9 := by
  unfold Dk.size
  split
  · simp
  · split
    · simp
    · split
      · simp
      · next f hf => exact ⟨(h.file f (find_some hf).1).small.2.1, by simp⟩
theorem pages_any (h : DI w B o d S c) (hp : PfR w B o d pf n) (hn : n.length ≤ 1000000000) :
    Calls Tryz.prog 79 #[.pointer (some ⟨pf, 0, none⟩)] w fun e w' => e = .returned (.tuple #[.int .i64 (S.ppages n).1, .int .i64 (S.ppages n).2]) ∧ w.grownBy w' none := by
  have HS : Hid (∀ wx, w.grownBy wx none → Calls Tryz.prog 108 #[.pointer (some ⟨d, 0, none⟩), .string ⟨n.toArray⟩] wx fun e w' => e = .returned (.tuple #[.int .i64 (S.size n).1, .int .i64 (S.size n).2]) ∧ wx.grownBy w' none) := fun wx hg => size_any (h.ext hg) n hn
  have hsz := (size_le h n).1
  have HK : Hid (∀ wx, w.grownBy wx none → wx.cell? ⟨pf, 0, none⟩ = some (.pointer (some ⟨d, 0, none⟩)) ∧ wx.cell? ⟨pf, 1, none⟩ = some (.string ⟨n.toArray⟩)) := fun wx hg => ⟨(hp.ext hg).cells.1, (hp.ext hg).cells.2.1⟩
  have HE : Hid ((((S.size n).1 : Nat) : Int) / 256 = ((S.ppages n).1 : Nat)) := by show _ = _; unfold Dk.ppages; push_cast; rfl
  have HE2 : Hid ((S.size n).2 = (S.ppages n).2) := rfl
  have kk := HK.out w (gr_refl _ _)
  rw [← HE2.out, ← HE.out]
  clear h hp HE HE2
  generalize (S.size n).1 = a at *
  generalize (S.size n).2 = b at *
  go_enter Tryz.func79, Tryz.ntmps79
  go_wp2
  go_region_held3 (fun w' => w'.cell? ⟨pf, 0, none⟩ = some (.pointer (some ⟨d, 0, none⟩)) ∧ w'.cell? ⟨pf, 1, none⟩ = some (.string ⟨n.toArray⟩)) (go_keep) (first
    | (go_at_call 108; (with_reducible refine (HS.out _ ?_).mono ?_); (first | exact gr_drew _ _ | exact gr_refl _ _); rintro e w1 ⟨rfl, g1⟩; have kk1 := HK.out _ (gr_trans (gr_drew _ _) g1 (.inl rfl))))
  go_wp2
  go_ret2
  exact ⟨rfl, gr_trans (gr_drew _ _) g1 (.inl rfl)⟩
theorem psync_any (h : DI w B o d S c) (hp : PfR w B o d pf n) (hn : n.length ≤ 1000000000) :
    Calls Tryz.prog 55 #[.pointer (some ⟨pf, 0, none⟩)] w fun e w' => e = .returned (.int .i64 (S.sync n).2) ∧ DOut o w B d (S.sync n).1 w' := by
  have HS : Hid (∀ wx, w.grownBy wx none → Calls Tryz.prog 105 #[.pointer (some ⟨d, 0, none⟩), .string ⟨n.toArray⟩] wx fun e w' => e = .returned (.int .i64 (S.sync n).2) ∧ DOut o wx B d (S.sync n).1 w') := fun wx hg => sync_any (h.ext hg) n hn
  have HP := Lib.hid hp
  have kk := And.intro hp.cells.1 hp.cells.2.1
  clear h hp
  go_enter Tryz.func55, Tryz.ntmps55
  go_wp2
  go_region_held3 (fun w' => w'.cell? ⟨pf, 0, none⟩ = some (.pointer (some ⟨d, 0, none⟩)) ∧ w'.cell? ⟨pf, 1, none⟩ = some (.string ⟨n.toArray⟩)) (go_keep) (first
    | (go_at_call 105; (with_reducible refine (HS.out _ ?_).mono ?_); (first | exact gr_drew _ _ | exact gr_refl _ _); rintro e w1 ⟨rfl, o1, c1, h1, ch1⟩; have kk1 := And.intro ((HP.out.ext (gr_drew _ none)).ch ch1).cells.1 ((HP.out.ext (gr_drew _ none)).ch ch1).cells.2.1))
  go_wp2
  go_ret
  exact ⟨rfl, o1, c1, h1, (Ch.ext (gr_drew _ _)).trans ch1⟩
end
end Go.Proofs.YtkpmadahfmpeiaaGreat

/- Files of pages: Read, Write, Create. -/
namespace Go.Proofs.YtkpmadahfmpeiaaGreat
open Go.RowKit
set_option maxRecDepth 100000
set_option maxHeartbeats 400000

/-- what is read of a page, or an error. -/
def Dk.pread (S : Dk) (n : List UInt8) (k : Int) : List UInt8 × Nat :=
  if k < 0 then ([], 1) else if (S.size n).2 ≠ 0 then ([], (S.size n).2) else if (((S.size n).1 / 256 : Nat) : Int) ≤ k then ([], 3) else
  match pagO (S.read n (k * 256) 256).1 (crcS n) k.toNat with
  | none => ([], 7)
  | some b => (b, 0)
def Dk.pwrite (S : Dk) (n : List UInt8) (k : Int) (b : List UInt8) : Dk × Nat :=
  if k < 0 then (S, 1) else if 240 < b.length then (S, 9) else if (S.size n).2 ≠ 0 then (S, (S.size n).2) else if (((S.size n).1 / 256 : Nat) : Int) < k then (S, 1) else
  S.write n (k * 256) (pagB (crcS n) k.toNat b)
theorem read_fine {S : Dk} {n : List UInt8} (h : (S.size n).2 = 0) {off k : Int} (ho : 0 ≤ off) (hk : 0 ≤ k) : (S.read n off k).2 = 0 := by
  unfold Dk.size at h
  unfold Dk.read
  split at h
  · cases h
  · next h1 =>
    rw [if_neg h1]
    split at h
    · cases h
    · next h2 =>
      rw [if_neg (by intro e; rcases e with e | e | e; exact h2 e; omega; omega)]
      split at h
      · cases h
      · rfl
section
variable {w w' : World} {B d pf : Nat} {o o' : Own1} {S : Dk} {c : Con} {n : List UInt8}
set_option maxHeartbeats 1000000 in
theorem pread_any (h : DI w B o d S c) (hp : PfR w B o d pf n) (hn : n.length ≤ 1000000000) (k : Int) (hk : -9223372036854775808 ≤ k ∧ k ≤ 9223372036854775807) :
    Calls Tryz.prog 78 #[.pointer (some ⟨pf, 0, none⟩), .int .i64 k] w fun e w' => (∃ v, e = .returned (.tuple #[v, .int .i64 (S.pread n k).2]) ∧ OwnB w' w.heap.size v (S.pread n k).1) ∧ w.grownBy w' none := by
  have HP : Hid (Calls Tryz.prog 79 #[.pointer (some ⟨pf, 0, none⟩)] w fun e w' => e = .returned (.tuple #[.int .i64 (S.ppages n).1, .int .i64 (S.ppages n).2]) ∧ w.grownBy w' none) := pages_any h hp hn
  have hsz := (size_le h n)
  have HK : Hid (∀ wx, w.grownBy wx none → wx.cell? ⟨pf, 0, none⟩ = some (.pointer (some ⟨d, 0, none⟩)) ∧ wx.cell? ⟨pf, 1, none⟩ = some (.string ⟨n.toArray⟩) ∧ wx.cell? ⟨pf, 2, none⟩ = some (.int .u32 (crcS n))) := fun wx hg => (hp.ext hg).cells
  have HR : Hid (∀ wx, w.grownBy wx none → 0 ≤ k → k ≤ 65535 → Calls Tryz.prog 109 #[.pointer (some ⟨d, 0, none⟩), .string ⟨n.toArray⟩, .int .i64 (k * 256), .int .i64 256] wx fun e w' =>
      (∃ v, e = .returned (.tuple #[v, .int .i64 (S.read n (k * 256) 256).2]) ∧ OwnB w' wx.heap.size v (S.read n (k * 256) 256).1) ∧ wx.grownBy w' none) := fun wx hg h1 h2 => read_any (h.ext hg) n hn (k * 256) 256 (by omega) (by omega)
  have HX : Hid (S.pread n k = if k < 0 then ([], 1) else if (S.ppages n).2 ≠ 0 then ([], (S.ppages n).2) else if (((S.ppages n).1 : Nat) : Int) ≤ k then ([], 3) else
    match pagO (S.read n (k * 256) 256).1 (crcS n) k.toNat with
    | none => ([], 7)
    | some b => (b, 0)) := rfl
  have HF : Hid ((S.ppages n).2 = 0 → 0 ≤ k → (S.read n (k * 256) 256).2 = 0) := fun e hk => read_fine e (by omega) (by omega)
  have hpp : (S.ppages n).1 ≤ 65536 := by unfold Dk.ppages; omega
  have hct : crcS n < 4294967296 := crcE_lt _ _
  clear h hp hsz
  generalize S.pread n k = R at *
  generalize (S.ppages n).1 = a at *
  generalize (S.ppages n).2 = b at *
  generalize crcS n = tag at *
  by_cases h1 : k < 0
  · have HX2 : Hid (R = ([], 1)) := by show _ = _; rw [HX.out, if_pos h1]
    rw [HX2.out]
    clear HX HX2
    go_enter Tryz.func78, Tryz.ntmps78
    go_wp2
    go_ret2
    exact ⟨⟨_, rfl, OwnB.nil _ _⟩, gr_refl _ _⟩
  by_cases h2 : b ≠ 0
  · have HX2 : Hid (R = ([], b)) := by show _ = _; rw [HX.out, if_neg h1, if_pos h2]
    rw [HX2.out]
    have hb0 : ((b : Int) != 0) = true := by rw [bne_iff_ne]; omega
    clear HX HX2 h2
    go_enter Tryz.func78, Tryz.ntmps78
    go_wp2_with fail
    refine HP.out.mono ?_
    rintro e w1 ⟨rfl, g1⟩
    go_wp2
    go_ret2
    exact ⟨⟨_, rfl, OwnB.nil _ _⟩, g1⟩
  obtain rfl : b = 0 := by omega
  obtain ⟨kn, rfl⟩ : ∃ kn : Nat, k = (kn : Int) := ⟨k.toNat, by omega⟩
  by_cases h3 : (a : Int) ≤ (kn : Int)
  · have HX2 : Hid (R = ([], 3)) := by show _ = _; rw [HX.out, if_neg h1, if_neg h2, if_pos h3]
    rw [HX2.out]
    clear HX HX2 h2
    go_enter Tryz.func78, Tryz.ntmps78
    go_wp2_with fail
    refine HP.out.mono ?_
    rintro e w1 ⟨rfl, g1⟩
    go_wp2
    go_ret2
    exact ⟨⟨_, rfl, OwnB.nil _ _⟩, g1⟩
  have HX2 : Hid (R = match pagO (S.read n ((kn : Int) * 256) 256).1 tag kn with
    | none => ([], 7)
    | some b => (b, 0)) := by show _ = _; rw [HX.out, if_neg h1, if_neg h2, if_neg h3, Int.toNat_natCast]
  have HF2 := Lib.hid (HF.out rfl (by omega))
  have hk5 : (kn : Int) ≤ 65535 := by omega
  rw [HF2.out] at HR
  clear HX HF HF2 h2 h1
  generalize (S.read n ((kn : Int) * 256) 256).1 = p at *
  have hw1 : IntKind.i64.wrap ((kn : Int) * 256) = (kn : Int) * 256 := by rw [IntWalk.i64_in _ (by omega)]
  have hlt : (kn : Int) < (a : Int) := by omega
  have hk0 : (0 : Int) ≤ (kn : Int) := by omega
  have HOP : Hid (∀ (v : Value) (wx : World), RdB wx v p → Calls Tryz.prog 130 #[v, .int .u32 tag, .int .u32 kn] wx (OpnOut wx (pagO p tag kn))) := fun v wx hv => opn_any tag kn hct (by omega) v p wx hv
  have HW := Lib.hid hw1
  clear hw1
  go_enter Tryz.func78, Tryz.ntmps78
  go_wp2_with fail
  refine HP.out.mono ?_
  rintro e w1 ⟨rfl, g1⟩
  have G1 := Lib.hid g1
  have kk := HK.out w1 g1
  have hw1 := HW.out
  clear g1
  go_wp2
  go_region_held3 (fun w' => w'.cell? ⟨pf, 0, none⟩ = some (.pointer (some ⟨d, 0, none⟩)) ∧ w'.cell? ⟨pf, 1, none⟩ = some (.string ⟨n.toArray⟩)) (go_keep) (first
    | (go_at_call 109; (with_reducible refine (HR.out _ ?_ hk0 hk5).mono ?_); (first | exact gr_none G1.out (gr_drew _ _) | exact G1.out); rintro e w2 ⟨⟨v2, rfl, o2⟩, g2⟩; have kk1 := HK.out _ (gr_none (gr_none G1.out (gr_drew _ _)) g2)))
  have G2 := Lib.hid (gr_none (gr_none G1.out (gr_drew _ none)) g2)
  have O2 := Lib.hid o2
  clear g2 o2 hw1
  go_wp2_with fail
  refine (HOP.out _ _ O2.out.rd).mono ?_
  rintro e w3 ⟨g3, hout⟩
  have G3 := Lib.hid (gr_none G2.out g3)
  have HO : Hid (∃ v', e = .returned (.tuple #[v', .int .i64 R.2]) ∧ OwnB w3 w.heap.size v' R.1) := by
    rcases hout with ⟨b, v', hr, he, ho⟩ | ⟨hr, he⟩
    · rw [hr] at HX2
      rw [HX2.out]
      exact ⟨v', he, ho.mono G2.out.size⟩
    · rw [hr] at HX2
      rw [HX2.out]
      exact ⟨_, he, OwnB.nil _ _⟩
  clear hout g3
  obtain ⟨v', rfl, ho⟩ := HO.out
  have HO2 := Lib.hid ho
  clear ho
  go_wp2
  go_ret2
  exact ⟨⟨_, rfl, HO2.out⟩, G3.out⟩
set_option maxHeartbeats 2000000 in
theorem pwrite_any (h : DI w B o d S c) (hp : PfR w B o d pf n) (hn : n.length ≤ 1000000000) (k : Int) (hk : -9223372036854775808 ≤ k ∧ k ≤ 9223372036854775807) (bv : Value) (b : List UInt8) (hb : RdB w bv b) (hbn : b.length ≤ 1000000000)
    (hfl : S.fs.length ≤ 1000000) (hnl : S.nl + 256 ≤ 4611686018427387904) :
    Calls Tryz.prog 77 #[.pointer (some ⟨pf, 0, none⟩), .int .i64 k, bv] w fun e w' => e = .returned (.int .i64 (S.pwrite n k b).2) ∧ DOut o w B d (S.pwrite n k b).1 w' := by
  obtain ⟨Ab, cb, rfl⟩ := hb.form
  have HP : Hid (Calls Tryz.prog 79 #[.pointer (some ⟨pf, 0, none⟩)] w fun e w' => e = .returned (.tuple #[.int .i64 (S.ppages n).1, .int .i64 (S.ppages n).2]) ∧ w.grownBy w' none) := pages_any h hp hn
  have hsz := (size_le h n)
  have H := Lib.hid h
  have HPF := Lib.hid hp
  have HB := Lib.hid hb
  have HX : Hid (S.pwrite n k b = if k < 0 then (S, 1) else if 240 < b.length then (S, 9) else if (S.ppages n).2 ≠ 0 then (S, (S.ppages n).2) else if (((S.ppages n).1 : Nat) : Int) < k then (S, 1) else
    S.write n (k * 256) (pagB (crcS n) k.toNat b)) := rfl
  have hpp : (S.ppages n).1 ≤ 65536 := by unfold Dk.ppages; omega
  have hct : crcS n < 4294967296 := crcE_lt _ _
  have HTG : Hid (crcS n = crcS n) := rfl
  clear h hp hb hsz
  generalize S.pwrite n k b = R at *
  generalize (S.ppages n).1 = a at *
  generalize (S.ppages n).2 = q at *
  by_cases h1 : k < 0
  · have HX2 : Hid (R = (S, 1)) := by show _ = _; rw [HX.out, if_pos h1]
    rw [HX2.out]
    clear HX HX2
    go_enter Tryz.func77, Tryz.ntmps77
    go_wp2
    go_ret
    exact ⟨rfl, o, c, H.out, Ch.refl _ _⟩
  by_cases h2 : 240 < b.length
  · have HX2 : Hid (R = (S, 9)) := by show _ = _; rw [HX.out, if_neg h1, if_pos h2]
    rw [HX2.out]
    have h1' : (0 : Int) ≤ k := by omega
    clear HX HX2 h1
    go_enter Tryz.func77, Tryz.ntmps77
    go_wp2
    go_ret
    exact ⟨rfl, o, c, H.out, Ch.refl _ _⟩
  have h2' : b.length ≤ 240 := by omega
  by_cases h3 : q ≠ 0
  · have HX2 : Hid (R = (S, q)) := by show _ = _; rw [HX.out, if_neg h1, if_neg h2, if_pos h3]
    rw [HX2.out]
    have hb0 : ((q : Int) != 0) = true := by rw [bne_iff_ne]; omega
    have h1' : (0 : Int) ≤ k := by omega
    clear HX HX2 h3 h1 h2
    go_enter Tryz.func77, Tryz.ntmps77
    go_wp2_with fail
    refine HP.out.mono ?_
    rintro e w1 ⟨rfl, g1⟩
    have G1 := Lib.hid g1
    clear g1
    go_wp2
    go_ret
    exact ⟨rfl, o, c, H.out.ext G1.out, Ch.ext G1.out⟩
  obtain rfl : q = 0 := by omega
  obtain ⟨kn, rfl⟩ : ∃ kn : Nat, k = (kn : Int) := ⟨k.toNat, by omega⟩
  by_cases h4 : (a : Int) < (kn : Int)
  · have HX2 : Hid (R = (S, 1)) := by show _ = _; rw [HX.out, if_neg h1, if_neg h2, if_neg h3, if_pos h4]
    rw [HX2.out]
    clear HX HX2 h3 h1 h2
    go_enter Tryz.func77, Tryz.ntmps77
    go_wp2_with fail
    refine HP.out.mono ?_
    rintro e w1 ⟨rfl, g1⟩
    have G1 := Lib.hid g1
    clear g1
    go_wp2
    go_ret
    exact ⟨rfl, o, c, H.out.ext G1.out, Ch.ext G1.out⟩
  have HX2 : Hid (R = S.write n ((kn : Int) * 256) (pagB (crcS n) kn b)) := by show _ = _; rw [HX.out, if_neg h1, if_neg h2, if_neg h3, if_neg h4, Int.toNat_natCast]
  have hk5 : (kn : Int) ≤ 65536 := by omega
  have hk0 : (0 : Int) ≤ (kn : Int) := by omega
  rw [HX2.out]
  have HL : Hid ((pagB (crcS n) kn b).length = 256) := pagB_len h2'
  have HMK : Hid (∀ wx, w.grownBy wx none → Calls Tryz.prog 129 #[.int .u32 (crcS n), .int .u32 kn, .slice Ab b.length cb] wx fun e w' => (∃ v', e = .returned (.tuple #[v', .int .i64 0]) ∧ OwnB w' wx.heap.size v' (pagB (crcS n) kn b)) ∧ wx.grownBy w' none) := fun wx hg =>
    mk_any (crcS n) kn hct (by omega) _ b wx (HB.out.ext hg) h2'
  have HWR : Hid (∀ (wx : World) (v : Value) (B1 : Nat), w.grownBy wx none → w.heap.size ≤ B1 → OwnB wx B1 v (pagB (crcS n) kn b) → Calls Tryz.prog 64 #[.pointer (some ⟨d, 0, none⟩), .string ⟨n.toArray⟩, .int .i64 ((kn : Int) * 256), v] wx fun e w' => e = .returned (.int .i64 (S.write n ((kn : Int) * 256) (pagB (crcS n) kn b)).2) ∧ DOut o wx B d (S.write n ((kn : Int) * 256) (pagB (crcS n) kn b)).1 w') := fun wx v B1 hg hB ho =>
    write_any (H.out.ext hg) n hn _ (by omega) v _ ho.rd (fun j hj => by
      have hj2 := Own.blk_lt ho (by omega) hj
      refine ⟨hj2.2, ?_⟩
      cases e : o j with
      | none => rfl
      | some t => exact absurd (H.out.inb j (by rw [e]; simp)).2 (by omega)) (by rw [HL.out]; omega) hfl (by rw [HL.out]; omega)
  clear HX HX2 h3 h1 h2 HL
  have HKC : Hid (∀ wx, w.grownBy wx none → wx.cell? ⟨pf, 0, none⟩ = some (.pointer (some ⟨d, 0, none⟩)) ∧ wx.cell? ⟨pf, 1, none⟩ = some (.string ⟨n.toArray⟩) ∧ wx.cell? ⟨pf, 2, none⟩ = some (.int .u32 (crcS n))) := fun wx hg => (HPF.out.ext hg).cells
  generalize S.write n ((kn : Int) * 256) (pagB (crcS n) kn b) = X at *
  generalize pagB (crcS n) kn b = P at *
  generalize crcS n = tag at *
  have hw1 : IntKind.i64.wrap ((kn : Int) * 256) = (kn : Int) * 256 := by rw [IntWalk.i64_in _ (by omega)]
  have HW := Lib.hid hw1
  have hlt : (kn : Int) ≤ (a : Int) := by omega
  clear hw1
  go_enter Tryz.func77, Tryz.ntmps77
  go_wp2_with fail
  refine HP.out.mono ?_
  rintro e w1 ⟨rfl, g1⟩
  have G1 := Lib.hid g1
  have kk := HKC.out w1 g1
  clear g1
  go_wp2_with fail
  refine (HMK.out _ G1.out).mono ?_
  rintro e w2 ⟨⟨v2, rfl, o2⟩, g2⟩
  have G2 := Lib.hid (gr_none G1.out g2)
  have O2 := Lib.hid (o2.mono G1.out.size)
  have kk2 := HKC.out w2 G2.out
  have hw1 := HW.out
  clear o2 g2
  go_wp2
  go_region_held3 (fun w' => w'.cell? ⟨pf, 0, none⟩ = some (.pointer (some ⟨d, 0, none⟩)) ∧ w'.cell? ⟨pf, 1, none⟩ = some (.string ⟨n.toArray⟩)) (go_keep) (first
    | (go_at_call 64; (with_reducible refine (HWR.out _ _ _ ?_ (Nat.le_refl _) ?_).mono ?_); (first | exact gr_none G2.out (gr_drew _ _) | exact G2.out); (first | exact O2.out.ext (gr_drew _ _) | exact O2.out); rintro e w3 ⟨rfl, o3, c3, h3, ch3⟩; have kk3 := And.intro ((HPF.out.ext (gr_none G2.out (gr_drew _ none))).ch ch3).cells.1 ((HPF.out.ext (gr_none G2.out (gr_drew _ none))).ch ch3).cells.2.1))
  go_wp2
  go_ret
  exact ⟨rfl, o3, c3, h3, (Ch.ext (gr_none G2.out (gr_drew _ none))).trans ch3⟩
/-- Create. -/
theorem pcreate_any (h : DI w B o d S c) (hn : n.length ≤ 1000000000) (hfl : S.fs.length ≤ 1000000) :
    Calls Tryz.prog 76 #[.pointer (some ⟨d, 0, none⟩), .string ⟨n.toArray⟩] w fun e w' => ∃ o' c', DI w' B o' d (S.create n).1 c' ∧ Ch o w o' w' ∧
      (((S.create n).2 = 0 ∧ ∃ pf, e = .returned (.tuple #[.pointer (some ⟨pf, 0, none⟩), .int .i64 0]) ∧ w.heap.size ≤ pf ∧ PfR w' B o' d pf n) ∨ ((S.create n).2 ≠ 0 ∧ e = .returned (.tuple #[.pointer none, .int .i64 (S.create n).2]))) := by
  have hC := Lib.hid (create_any h n hn hfl)
  have hM := Lib.hid (made_any d n hn)
  have hdB : B ≤ w.heap.size := by have := h.inb d (by rw [h.tD]; simp); omega
  clear h
  generalize S.create n = X at *
  obtain ⟨S1, q⟩ := X
  by_cases hq : q = 0
  · subst hq
    go_enter Tryz.func76, Tryz.ntmps76
    go_wp2_with fail
    refine hC.out.mono ?_
    rintro e w1 ⟨rfl, o1, c1, h1, ch1⟩
    have H1 := Lib.hid h1
    have C1 := Lib.hid ch1
    clear h1 ch1
    go_wp2_with fail
    refine (hM.out _).mono ?_
    rintro e w2 ⟨pf, rfl, hpf, hb, g2⟩
    have HB := Lib.hid hb
    have G2 := Lib.hid g2
    clear hb g2
    go_wp2
    go_ret2
    refine ⟨o1, c1, H1.out.ext G2.out, C1.out.trans (Ch.ext G2.out), .inl ⟨by trivial, pf, rfl, Nat.le_trans C1.out.size hpf, HB.out, ?_, Nat.le_trans hdB (Nat.le_trans C1.out.size hpf)⟩⟩
    cases e : o1 pf with
    | none => rfl
    | some t => exact absurd (H1.out.inb pf (by rw [e]; simp)).2 (by omega)
  · have hb0 : ((q : Int) != 0) = true := by rw [bne_iff_ne]; omega
    have HQ := Lib.hid hq
    clear hq
    go_enter Tryz.func76, Tryz.ntmps76
    go_wp2_with fail
    refine hC.out.mono ?_
    rintro e w1 ⟨rfl, o1, c1, h1, ch1⟩
    have H1 := Lib.hid h1
    have C1 := Lib.hid ch1
    clear h1 ch1
    go_wp2
    go_ret2
    exact ⟨o1, c1, H1.out, C1.out, .inr ⟨HQ.out, rfl⟩⟩
end
end Go.Proofs.YtkpmadahfmpeiaaGreat
