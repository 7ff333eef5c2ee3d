/-
  The disk's operations where the power stays.
-/
import Derived.Test.YtkfokgjpeaibpaaGreatDw7
import Derived.Test.YtkfokgjpeaibpaaGreatDw8
import Derived.Test.YtkfokgjpeaibpaaGreatPgP
import Derived.Test.YtkfokgjpeaibpaaGreatDk
import Derived.Test.YtkfokgjpeaibpaaGreatPgO
namespace Go.Proofs.YtkfokgjpeaibpaaGreat
open Go.RowKit
set_option maxRecDepth 100000
set_option maxHeartbeats 400000

/-- the power stays. -/
def Idle (S : Dk) : Prop := S.armed = 0 ∧ S.dead = false
theorem Idle.begin {S : Dk} (h : Idle S) : S.begin = S := begin_idle S h.1
theorem find_setF (fs : List Fi) (n s : List UInt8) {g : Fi → Fi} (hg : ∀ f, (g f).name = f.name) : (setF fs n g).find? (fun f => f.name == s) = (fs.find? fun f => f.name == s).map fun f => if f.name = n then g f else f := by
  unfold setF
  rw [List.find?_map]
  congr 1
  congr 1
  funext f
  by_cases e : f.name = n
  · simp [e, hg]
  · simp [e]
theorem size_idle {S : Dk} {f : Fi} {n : List UInt8} (hi : Idle S) (hr : rightB n = true) (hf : S.find n = some f) : S.size n = (f.now.length, 0) := by unfold Dk.size; rw [hi.2, hr, hf]; rfl
theorem size_none {S : Dk} {n : List UInt8} (hi : Idle S) (hr : rightB n = true) (hf : S.find n = none) : S.size n = (0, 3) := by unfold Dk.size; rw [hi.2, hr, hf]; rfl
theorem create_idle {S : Dk} {n : List UInt8} (hi : Idle S) (hr : rightB n = true) (hf : S.find n = none) : S.create n = ({ S with fs := S.fs ++ [⟨n, [], []⟩] }, 0) := by
  unfold Dk.create; rw [hi.begin, if_neg (by rw [hi.2]; simp), if_neg (by rw [hr]; simp), hf]; rfl
theorem read_idle {S : Dk} {f : Fi} {n : List UInt8} {p k : Nat} (hi : Idle S) (hr : rightB n = true) (hf : S.find n = some f) : S.read n p k = ((f.now.drop p).take k, 0) := by
  unfold Dk.read
  rw [if_neg (by rw [hi.2]; simp), if_neg (by rw [hr]; simp), hf]
  rfl
theorem cut_idle {S : Dk} {f : Fi} {n : List UInt8} {k : Nat} (hi : Idle S) (hr : rightB n = true) (hf : S.find n = some f) (hk : k ≤ f.now.length) : S.cut n k = (S.cutTo n k, 0) := by
  unfold Dk.cut
  rw [hi.begin, if_neg (by rw [hi.2]; simp), if_neg (by rw [hr]; simp), hf]
  show (if (f.now.length : Int) < (k : Int) then (S, 1) else (S.cutTo n (k : Int).toNat, 0)) = _
  rw [if_neg (by omega), Int.toNat_natCast]
theorem sync_idle {S : Dk} {f : Fi} {n : List UInt8} (hi : Idle S) (hr : rightB n = true) (hf : S.find n = some f) : S.sync n = (S.synced n, 0) := by
  unfold Dk.sync; rw [hi.begin, hi.2, hr, hf]; rfl
theorem write_idle {S : Dk} {f : Fi} {n : List UInt8} {p : Nat} {b : List UInt8} (hi : Idle S) (hr : rightB n = true) (hf : S.find n = some f) (h1 : p ≤ f.now.length) (h2 : p + b.length ≤ 16777216)
    (h3 : ¬ (0 < moreS f p b ∧ (S.quota : Int) < S.used + moreS f p b)) : S.write n p b = (S.wrote n p b, 0) := by
  have := write_ok (S := S) (n := n) (p := p) (b := b) (f := f) (by rw [hi.begin]; exact hi.2) (by rw [hr]; simp) hf (by omega) (by omega) h3
  rw [hi.begin] at this
  exact this
theorem find_cutTo (S : Dk) (n : List UInt8) (k : Nat) (s : List UInt8) : (S.cutTo n k).find s = (S.find s).map fun f => if f.name = n then { f with now := f.now.take k, lasts := f.lasts.take k } else f := find_setF _ _ _ fun _ => rfl
theorem find_synced (S : Dk) (n s : List UInt8) : (S.synced n).find s = (S.find s).map fun f => if f.name = n then { f with lasts := f.now } else f := find_setF _ _ _ fun _ => rfl
theorem find_wrote (S : Dk) (n : List UInt8) (p : Nat) (b s : List UInt8) : (S.wrote n p b).find s = (S.find s).map fun f => if f.name = n then { f with now := overZ f.now p b } else f := find_setF _ _ _ fun _ => rfl
theorem find_added (S : Dk) (n : List UInt8) (hf : S.find n = none) : ({ S with fs := S.fs ++ [⟨n, [], []⟩] } : Dk).find n = some ⟨n, [], []⟩ := by
  unfold Dk.find at hf ⊢
  simp [List.find?_append, hf]
end Go.Proofs.YtkfokgjpeaibpaaGreat

/- A file of pages as plain data. -/
namespace Go.Proofs.YtkfokgjpeaibpaaGreat
set_option maxRecDepth 100000

/-- a page of a file's bytes. -/
def pgA (c : List UInt8) (k : Nat) : List UInt8 := (c.drop (256 * k)).take 256
theorem pgA_len {c : List UInt8} {n k : Nat} (hc : c.length = 256 * n) (hk : k < n) : (pgA c k).length = 256 := by
  unfold pgA; rw [List.length_take, List.length_drop]; omega
theorem pgA_at (c : List UInt8) (k j : Nat) (hj : j < 256) : (pgA c k)[j]? = c[256 * k + j]? := by
  unfold pgA; rw [List.getElem?_take, if_pos hj, List.getElem?_drop]
theorem pgA_ext {p q : List UInt8} (hp : p.length = 256) (hq : q.length = 256) (h : ∀ j, j < 256 → p[j]? = q[j]?) : p = q := by
  apply List.ext_getElem?
  intro j
  by_cases hj : j < 256
  · exact h j hj
  · rw [List.getElem?_eq_none (by omega), List.getElem?_eq_none (by omega)]
theorem overZ_len8 {c p : List UInt8} {o : Nat} (ho : o ≤ c.length) : (overZ c o p).length = max c.length (o + p.length) := by
  unfold overZ; simp only [List.length_append, List.length_take, List.length_drop]; omega
theorem overZ_at {c p : List UInt8} {o : Nat} (ho : o ≤ c.length) (j : Nat) : (overZ c o p)[j]? = if j < o then c[j]? else if j < o + p.length then p[j - o]? else c[j]? := by
  unfold overZ
  rw [List.append_assoc]
  have hl : (c.take o).length = o := by rw [List.length_take]; omega
  by_cases h1 : j < o
  · rw [if_pos h1, List.getElem?_append_left (by omega), List.getElem?_take, if_pos h1]
  · rw [if_neg h1, List.getElem?_append_right (by omega), hl]
    by_cases h2 : j < o + p.length
    · rw [if_pos h2, List.getElem?_append_left (by omega)]
    · rw [if_neg h2, List.getElem?_append_right (by omega), List.getElem?_drop]
      congr 1
      omega
theorem pgA_over {c p : List UInt8} {n k j : Nat} (hc : c.length = 256 * n) (hp : p.length = 256) (hk : k ≤ n) (hj : j < max n (k + 1)) : pgA (overZ c (256 * k) p) j = if j = k then p else pgA c j := by
  have hl : (overZ c (256 * k) p).length = 256 * max n (k + 1) := by rw [overZ_len8 (by omega)]; omega
  by_cases e : j = k
  · rw [if_pos e]
    refine pgA_ext (pgA_len hl hj) hp fun i hi => ?_
    rw [pgA_at _ _ _ hi, overZ_at (by omega), if_neg (by omega), if_pos (by omega)]
    congr 1
    omega
  · rw [if_neg e]
    have hjn : j < n := by omega
    refine pgA_ext (pgA_len hl hj) (pgA_len hc hjn) fun i hi => ?_
    rw [pgA_at _ _ _ hi, pgA_at _ _ _ hi, overZ_at (by omega)]
    by_cases h1 : 256 * j + i < 256 * k
    · rw [if_pos h1]
    · rw [if_neg h1, if_neg (by omega)]
/-- so many pages, each with its bytes. -/
structure Holds (c : List UInt8) (tag n : Nat) (g : Nat → List UInt8) : Prop where
  len : c.length = 256 * n
  at_ : ∀ i, i < n → pagO (pgA c i) tag i = some (g i)
  small : ∀ i, i < n → (g i).length ≤ 240
theorem Holds.nil (tag : Nat) (g : Nat → List UInt8) : Holds [] tag 0 g := ⟨rfl, fun i hi => by omega, fun i hi => by omega⟩
theorem Holds.write {c : List UInt8} {tag n : Nat} {g : Nat → List UInt8} (h : Holds c tag n g) {k : Nat} (hk : k ≤ n) (hk2 : k < 2 ^ 32) (ht : tag < 2 ^ 32) {b : List UInt8} (hb : b.length ≤ 240) :
    Holds (overZ c (256 * k) (pagB tag k b)) tag (max n (k + 1)) (fun i => if i = k then b else g i) := by
  have hp := pagB_len (tag := tag) (k := k) hb
  refine ⟨by rw [overZ_len8 (by have := h.len; omega), hp, h.len]; omega, fun i hi => ?_, fun i hi => ?_⟩
  · rw [pgA_over h.len hp hk hi]
    by_cases e : i = k
    · subst e; rw [if_pos rfl, if_pos rfl, pagO_made hb ht hk2, if_pos rfl]
    · rw [if_neg e, if_neg e]; exact h.at_ i (by omega)
  · by_cases e : i = k
    · rw [if_pos e]; exact hb
    · rw [if_neg e]; exact h.small i (by omega)
theorem Holds.congr {c : List UInt8} {tag n m : Nat} {g g' : Nat → List UInt8} (h : Holds c tag n g) (hm : m = n) (hg : ∀ i, i < n → g' i = g i) : Holds c tag m g' := by
  subst hm
  exact ⟨h.len, fun i hi => by rw [hg i hi]; exact h.at_ i hi, fun i hi => by rw [hg i hi]; exact h.small i hi⟩
/-- at another number it is none. -/
theorem pagO_moved {p : List UInt8} {tag k m : Nat} {b : List UInt8} (h : pagO p tag k = some b) (hm : m ≠ k) : pagO p tag m = none := by
  unfold pagO at h ⊢
  split at h
  · next hh => exact if_neg fun h2 => hm (h2.2.2.2.2.1.symm.trans hh.2.2.2.2.1)
  · cases h
end Go.Proofs.YtkfokgjpeaibpaaGreat

/- Files of pages: what pagefile's functions do with a disk. -/
namespace Go.Proofs.YtkfokgjpeaibpaaGreat
open Go.RowKit
set_option maxRecDepth 100000
set_option maxHeartbeats 400000

/-- a file of pages in memory. -/
structure PfR (w : World) (B : Nat) (o : Own1) (d pf : Nat) (n : List UInt8) : Prop where
  box : Blk w pf 120 #[.pointer (some ⟨d, 0, none⟩), .string ⟨n.toArray⟩, .int .u32 (crcS n)]
  free : o pf = none
  pB : B ≤ pf
section
variable {w w' : World} {B d pf : Nat} {o o' : Own1} {S : Dk} {c : Con} {n : List UInt8}
theorem PfR.ch (h : PfR w B o d pf n) (hc : Ch o w o' w') : PfR w' B o' d pf n := ⟨hc.blk h.box h.free, hc.free _ h.box.lt h.free, h.pB⟩
theorem PfR.ext (h : PfR w B o d pf n) (hg : w.grownBy w' none) : PfR w' B o d pf n := h.ch (Ch.ext hg)
theorem PfR.cells (h : PfR w B o d pf n) : w.cell? ⟨pf, 0, none⟩ = some (.pointer (some ⟨d, 0, none⟩)) ∧ w.cell? ⟨pf, 1, none⟩ = some (.string ⟨n.toArray⟩) ∧ w.cell? ⟨pf, 2, none⟩ = some (.int .u32 (crcS n)) := ⟨h.box.cell 0, h.box.cell 1, h.box.cell 2⟩
theorem made_any (d : Nat) (n : List UInt8) (hn : n.length ≤ 1000000000) (w : World) :
    Calls Tryz.prog 73 #[.pointer (some ⟨d, 0, none⟩), .string ⟨n.toArray⟩] w fun e w' => ∃ pf, e = .returned (.pointer (some ⟨pf, 0, none⟩)) ∧ w.heap.size ≤ pf ∧ Blk w' pf 120 #[.pointer (some ⟨d, 0, none⟩), .string ⟨n.toArray⟩, .int .u32 (crcS n)] ∧ w.grownBy w' none := by
  have HT := Lib.hid (tag_any n hn)
  go_enter Tryz.func73, Tryz.ntmps73
  go_wp2_with fail
  refine (HT.out _).mono ?_
  rintro e w1 ⟨rfl, g1⟩
  have G1 := Lib.hid g1
  clear g1
  go_wp2
  go_ret
  exact ⟨_, rfl, G1.out.size, Blk.new _ _ _, gr_none G1.out (gr_alloc _ _ none)⟩
/-- how many pages, or an error. -/
def Dk.ppages (S : Dk) (n : List UInt8) : Nat × Nat := ((S.size n).1 / 256, (S.size n).2)
theorem size_le (h : DI w B o d S c) (n : List UInt8) : (S.size n).1 ≤ 16777216 ∧ (S.size n).2 ≤ 9 := by
  unfold Dk.size
  split
  · simp
  · split
    · simp
    · split
      · simp
      · next f hf => exact ⟨(h.file f (find_some hf).1).small.2.1, by simp⟩
theorem pages_any (h : DI w B o d S c) (hp : PfR w B o d pf n) (hn : n.length ≤ 1000000000) :
    Calls Tryz.prog 60 #[.pointer (some ⟨pf, 0, none⟩)] w fun e w' => e = .returned (.tuple #[.int .i64 (S.ppages n).1, .int .i64 (S.ppages n).2]) ∧ w.grownBy w' none := by
  have HS : Hid (∀ wx, w.grownBy wx none → Calls Tryz.prog 75 #[.pointer (some ⟨d, 0, none⟩), .string ⟨n.toArray⟩] wx fun e w' => e = .returned (.tuple #[.int .i64 (S.size n).1, .int .i64 (S.size n).2]) ∧ wx.grownBy w' none) := fun wx hg => size_any (h.ext hg) n hn
  have hsz := (size_le h n).1
  have HK : Hid (∀ wx, w.grownBy wx none → wx.cell? ⟨pf, 0, none⟩ = some (.pointer (some ⟨d, 0, none⟩)) ∧ wx.cell? ⟨pf, 1, none⟩ = some (.string ⟨n.toArray⟩)) := fun wx hg => ⟨(hp.ext hg).cells.1, (hp.ext hg).cells.2.1⟩
  have HE : Hid ((((S.size n).1 : Nat) : Int) / 256 = ((S.ppages n).1 : Nat)) := by show _ = _; unfold Dk.ppages; push_cast; rfl
  have HE2 : Hid ((S.size n).2 = (S.ppages n).2) := rfl
  have kk := HK.out w (gr_refl _ _)
  rw [← HE2.out, ← HE.out]
  clear h hp HE HE2
  generalize (S.size n).1 = a at *
  generalize (S.size n).2 = b at *
  go_enter Tryz.func60, Tryz.ntmps60
  go_wp2
  go_region_held3 (fun w' => w'.cell? ⟨pf, 0, none⟩ = some (.pointer (some ⟨d, 0, none⟩)) ∧ w'.cell? ⟨pf, 1, none⟩ = some (.string ⟨n.toArray⟩)) (go_keep) (first
    | (go_at_call 75; (with_reducible refine (HS.out _ ?_).mono ?_); (first | exact gr_drew _ _ | exact gr_refl _ _); rintro e w1 ⟨rfl, g1⟩; have kk1 := HK.out _ (gr_trans (gr_drew _ _) g1 (.inl rfl))))
  go_wp2
  go_ret2
  exact ⟨rfl, gr_trans (gr_drew _ _) g1 (.inl rfl)⟩
theorem psync_any (h : DI w B o d S c) (hp : PfR w B o d pf n) (hn : n.length ≤ 1000000000) :
    Calls Tryz.prog 42 #[.pointer (some ⟨pf, 0, none⟩)] w fun e w' => e = .returned (.int .i64 (S.sync n).2) ∧ DOut o w B d (S.sync n).1 w' := by
  have HS : Hid (∀ wx, w.grownBy wx none → Calls Tryz.prog 64 #[.pointer (some ⟨d, 0, none⟩), .string ⟨n.toArray⟩] wx fun e w' => e = .returned (.int .i64 (S.sync n).2) ∧ DOut o wx B d (S.sync n).1 w') := fun wx hg => sync_any (h.ext hg) n hn
  have HP := Lib.hid hp
  have kk := And.intro hp.cells.1 hp.cells.2.1
  clear h hp
  go_enter Tryz.func42, Tryz.ntmps42
  go_wp2
  go_region_held3 (fun w' => w'.cell? ⟨pf, 0, none⟩ = some (.pointer (some ⟨d, 0, none⟩)) ∧ w'.cell? ⟨pf, 1, none⟩ = some (.string ⟨n.toArray⟩)) (go_keep) (first
    | (go_at_call 64; (with_reducible refine (HS.out _ ?_).mono ?_); (first | exact gr_drew _ _ | exact gr_refl _ _); rintro e w1 ⟨rfl, o1, c1, h1, ch1⟩; have kk1 := And.intro ((HP.out.ext (gr_drew _ none)).ch ch1).cells.1 ((HP.out.ext (gr_drew _ none)).ch ch1).cells.2.1))
  go_wp2
  go_ret
  exact ⟨rfl, o1, c1, h1, (Ch.ext (gr_drew _ _)).trans ch1⟩
end
end Go.Proofs.YtkfokgjpeaibpaaGreat
