/-
  The disk's operations where the power stays.
-/
import Derived.Test.YthkajgangnmbdaaDw6
import Derived.Test.YthkajgangnmbdaaDw8
namespace Go.Proofs.Ythkajgangnmbdaa
open Go.RowKit
set_option maxRecDepth 100000
set_option maxHeartbeats 400000

/-- the power stays. -/
def Idle (S : Dk) : Prop := S.armed = 0 ∧ S.dead = false
theorem Idle.begin {S : Dk} (h : Idle S) : S.begin = S := begin_idle S h.1
theorem find_setF (fs : List Fi) (n s : List UInt8) {g : Fi → Fi} (hg : ∀ f, (g f).name = f.name) : (setF fs n g).find? (fun f => f.name == s) = (fs.find? fun f => f.name == s).map fun f => if f.name = n then g f else f := by
  unfold setF
  rw [List.find?_map]
  congr 1
  congr 1
  funext f
  by_cases e : f.name = n
  · simp [e, hg]
  · simp [e]
theorem size_idle {S : Dk} {f : Fi} {n : List UInt8} (hi : Idle S) (hr : rightB n = true) (hf : S.find n = some f) : S.size n = (f.now.length, 0) := by unfold Dk.size; rw [hi.2, hr, hf]; rfl
theorem size_none {S : Dk} {n : List UInt8} (hi : Idle S) (hr : rightB n = true) (hf : S.find n = none) : S.size n = (0, 3) := by unfold Dk.size; rw [hi.2, hr, hf]; rfl
theorem create_idle {S : Dk} {n : List UInt8} (hi : Idle S) (hr : rightB n = true) (hf : S.find n = none) : S.create n = ({ S with fs := S.fs ++ [⟨n, [], []⟩] }, 0) := by
  unfold Dk.create; rw [hi.begin, if_neg (by rw [hi.2]; simp), if_neg (by rw [hr]; simp), hf]; rfl
theorem read_idle {S : Dk} {f : Fi} {n : List UInt8} {p k : Nat} (hi : Idle S) (hr : rightB n = true) (hf : S.find n = some f) : S.read n p k = ((f.now.drop p).take k, 0) := by
  unfold Dk.read
  rw [if_neg (by rw [hi.2]; simp), if_neg (by rw [hr]; simp), hf]
  rfl
theorem cut_idle {S : Dk} {f : Fi} {n : List UInt8} {k : Nat} (hi : Idle S) (hr : rightB n = true) (hf : S.find n = some f) (hk : k ≤ f.now.length) : S.cut n k = (S.cutTo n k, 0) := by
  unfold Dk.cut
  rw [hi.begin, if_neg (by rw [hi.2]; simp), if_neg (by rw [hr]; simp), hf]
  show (if (f.now.length : Int) < (k : Int) then (S, 1) else (S.cutTo n (k : Int).toNat, 0)) = _
  rw [if_neg (by omega), Int.toNat_natCast]
theorem sync_idle {S : Dk} {f : Fi} {n : List UInt8} (hi : Idle S) (hr : rightB n = true) (hf : S.find n = some f) : S.sync n = (S.synced n, 0) := by
  unfold Dk.sync; rw [hi.begin, hi.2, hr, hf]; rfl
theorem write_idle {S : Dk} {f : Fi} {n : List UInt8} {p : Nat} {b : List UInt8} (hi : Idle S) (hr : rightB n = true) (hf : S.find n = some f) (h1 : p ≤ f.now.length) (h2 : p + b.length ≤ 16777216)
    (h3 : ¬ (0 < moreS f p b ∧ (S.quota : Int) < S.used + moreS f p b)) : S.write n p b = (S.wrote n p b, 0) := by
  have := write_ok (S := S) (n := n) (p := p) (b := b) (f := f) (by rw [hi.begin]; exact hi.2) (by rw [hr]; simp) hf (by omega) (by omega) h3
  rw [hi.begin] at this
  exact this
theorem find_cutTo (S : Dk) (n : List UInt8) (k : Nat) (s : List UInt8) : (S.cutTo n k).find s = (S.find s).map fun f => if f.name = n then { f with now := f.now.take k, lasts := f.lasts.take k } else f := find_setF _ _ _ fun _ => rfl
theorem find_synced (S : Dk) (n s : List UInt8) : (S.synced n).find s = (S.find s).map fun f => if f.name = n then { f with lasts := f.now } else f := find_setF _ _ _ fun _ => rfl
theorem find_wrote (S : Dk) (n : List UInt8) (p : Nat) (b s : List UInt8) : (S.wrote n p b).find s = (S.find s).map fun f => if f.name = n then { f with now := overZ f.now p b } else f := find_setF _ _ _ fun _ => rfl
theorem find_added (S : Dk) (n : List UInt8) (hf : S.find n = none) : ({ S with fs := S.fs ++ [⟨n, [], []⟩] } : Dk).find n = some ⟨n, [], []⟩ := by
  unfold Dk.find at hf ⊢
  simp [List.find?_append, hf]
end Go.Proofs.Ythkajgangnmbdaa
