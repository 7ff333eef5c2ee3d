/-
  A disk with one file: plain.
-/
import Derived.Test.YthkajgangnmbdaaSm
import Derived.Test.YthkajgangnmbdaaSec
namespace Go.Proofs.Ythkajgangnmbdaa

structure One (S : Dk) (n now lasts : List UInt8) (q : Nat) : Prop where
  idle : Idle S
  fs : S.fs = [⟨n, now, lasts⟩]
  q : S.quota = q
section
variable {S : Dk} {n now lasts : List UInt8} {q : Nat}
theorem One.find (h : One S n now lasts q) : S.find n = some ⟨n, now, lasts⟩ := by unfold Dk.find; rw [h.fs]; simp
theorem One.used (h : One S n now lasts q) : S.used = sectors now.length := by unfold Dk.used; rw [h.fs]; simp
theorem One.fl (h : One S n now lasts q) : S.fs.length = 1 := by rw [h.fs]; rfl
theorem One.nowOf (h : One S n now lasts q) : S.nowOf n = now := nowOf_some h.find
theorem One.lastsOf (h : One S n now lasts q) : S.lastsOf n = lasts := lastsOf_some h.find
theorem one_new (q : Nat) {n : List UInt8} (hr : rightB n = true) : ((newD q).create n).2 = 0 ∧ One ((newD q).create n).1 n [] [] q := by
  have := create_idle (S := newD q) (n := n) ⟨rfl, rfl⟩ hr rfl
  rw [this]
  exact ⟨rfl, ⟨rfl, rfl⟩, rfl, rfl⟩
theorem setF_one (n now lasts : List UInt8) (g : Fi → Fi) : setF [⟨n, now, lasts⟩] n g = [g ⟨n, now, lasts⟩] := by simp [setF]
theorem One.write (h : One S n now lasts q) (hr : rightB n = true) {p : Nat} {b : List UInt8} (hp : p ≤ now.length) (hl : p + b.length ≤ 16777216) (hq : sectors (max now.length (p + b.length)) ≤ q) :
    (S.write n p b).2 = 0 ∧ One (S.write n p b).1 n (overZ now p b) lasts q ∧ (S.write n p b).1 = S.wrote n p b := by
  have e := write_idle (S := S) (n := n) (p := p) (b := b) h.idle hr h.find hp hl (by
    unfold moreS
    rw [h.used, h.q]
    show ¬ (_ ∧ (q : Int) < (sectors now.length : Int) + ((sectors (max now.length (p + b.length)) : Int) - sectors now.length))
    omega)
  rw [e]
  refine ⟨rfl, ⟨⟨h.idle.1, h.idle.2⟩, ?_, h.q⟩, rfl⟩
  show setF S.fs n _ = _
  rw [h.fs, setF_one]
theorem One.sync (h : One S n now lasts q) (hr : rightB n = true) : (S.sync n).2 = 0 ∧ One (S.sync n).1 n now now q ∧ (S.sync n).1 = S.synced n := by
  rw [sync_idle h.idle hr h.find]
  refine ⟨rfl, ⟨⟨h.idle.1, h.idle.2⟩, ?_, h.q⟩, rfl⟩
  show setF S.fs n _ = _
  rw [h.fs, setF_one]
theorem One.cut (h : One S n now lasts q) (hr : rightB n = true) {k : Nat} (hk : k ≤ now.length) : (S.cut n k).2 = 0 ∧ One (S.cut n k).1 n (now.take k) (lasts.take k) q := by
  rw [cut_idle h.idle hr h.find hk]
  refine ⟨rfl, ⟨h.idle.1, h.idle.2⟩, ?_, h.q⟩
  show setF S.fs n _ = _
  rw [h.fs, setF_one]
theorem One.cut_bad (h : One S n now lasts q) {k : Int} (hk : k < 0 ∨ (now.length : Int) < k) : (S.cut n k).2 = 1 := by
  unfold Dk.cut
  rw [h.idle.begin, if_neg (by rw [h.idle.2]; simp)]
  by_cases h0 : rightB n = false ∨ k < 0
  · rw [if_pos h0]
  · rw [if_neg h0, h.find]
    show (if (now.length : Int) < k then (S, 1) else _ : Dk × Nat).2 = 1
    rw [if_pos (by rw [not_or] at h0; omega)]
theorem One.read (h : One S n now lasts q) (hr : rightB n = true) (p k : Nat) : S.read n p k = ((now.drop p).take k, 0) := read_idle h.idle hr h.find
theorem One.size (h : One S n now lasts q) (hr : rightB n = true) : S.size n = (now.length, 0) := size_idle h.idle hr h.find
/-- the power goes at the next operation. -/
theorem One.arm (h : One S n now lasts q) (k : Nat) : S.arm k = ({ S with armed := k }, 0) := by
  unfold Dk.arm; rw [if_neg (by omega), if_neg (by rw [h.idle.2]; simp), Int.toNat_natCast]
def Dk.off (S : Dk) : Dk := { S with armed := 0, dead := true }
theorem create_off (S : Dk) (n : List UInt8) : ({ S with armed := 1 } : Dk).create n = (S.off, 6) := by
  have e : ({ S with armed := 1 } : Dk).begin = S.off := by unfold Dk.begin Dk.off; simp
  unfold Dk.create
  rw [e, if_pos (show S.off.dead = true from rfl)]
theorem sync_off (S : Dk) (n : List UInt8) : ({ S with armed := 1 } : Dk).sync n = (S.off, 6) := by
  have e : ({ S with armed := 1 } : Dk).begin = S.off := by unfold Dk.begin Dk.off; simp
  unfold Dk.sync
  rw [e, if_pos (show S.off.dead = true from rfl)]
theorem Sm.off {a b : Nat} (h : Sm S a b) : Sm S.off a b := ⟨h.fl, h.nl, h.li⟩
theorem off_nowOf (S : Dk) (s : List UInt8) : S.off.nowOf s = S.nowOf s := rfl
theorem off_lastsOf (S : Dk) (s : List UInt8) : S.off.lastsOf s = S.lastsOf s := rfl
theorem One.lit (h : One S n now lasts q) (T : List UInt8 → List UInt8) : One (S.off.lit T) n (T n) (T n) q := by
  refine ⟨⟨rfl, rfl⟩, ?_, h.q⟩
  show S.fs.map _ = _
  rw [h.fs]; rfl
end
end Go.Proofs.Ythkajgangnmbdaa
