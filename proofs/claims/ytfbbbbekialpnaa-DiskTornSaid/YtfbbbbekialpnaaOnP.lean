/-
  What On makes of a disk: plain.
-/
import Derived.Test.YtfbbbbekialpnaaDk
import Derived.Test.YtfbbbbekialpnaaSec
namespace Go.Proofs.Ytfbbbbekialpnaa

def Dk.nowOf (S : Dk) (s : List UInt8) : List UInt8 := match S.find s with | some f => f.now | none => []
def Dk.lastsOf (S : Dk) (s : List UInt8) : List UInt8 := match S.find s with | some f => f.lasts | none => []
def Dk.has (S : Dk) (s : List UInt8) : Bool := (S.find s).isSome
/-- where a sector ends. -/
def secTo (now : List UInt8) (p : Nat) : Nat := min ((p + 1) * 64) now.length
/-- what of a file lasts, when sector p of it stays, too. -/
def onB (now b : List UInt8) (p : Nat) : List UInt8 := overZ (b ++ List.replicate (secTo now p - b.length) 0) (p * 64) ((now.drop (p * 64)).take (secTo now p - p * 64))
def onS (S : Dk) (keep : List Int) (i : Nat) (x : Sec) (T : List UInt8 → List UInt8) : List UInt8 → List UInt8 :=
  if keep.contains (i : Int) = true then fun s => if s = x.name then onB (S.nowOf x.name) (T x.name) x.page.toNat else T s else T
def onT (S : Dk) (keep : List Int) (ls : List Sec) : Nat → List UInt8 → List UInt8
  | 0 => S.lastsOf
  | i + 1 => match ls[i]? with | some x => onS S keep i x (onT S keep ls i) | none => onT S keep ls i
/-- a disk that is switched on. -/
def Dk.lit (S : Dk) (T : List UInt8 → List UInt8) : Dk := { S with fs := S.fs.map (fun f => ⟨f.name, T f.name, T f.name⟩), loose := fun _ _ => false, nl := 0, armed := 0, dead := false }
/-- each loose sector is one of a file's. -/
def LooseIn (S : Dk) : Prop := ∀ s k, S.loose s k = true → ∃ f, S.find s = some f ∧ 0 ≤ k ∧ 64 * k < f.now.length
theorem nowOf_some {S : Dk} {s : List UInt8} {f : Fi} (h : S.find s = some f) : S.nowOf s = f.now := by unfold Dk.nowOf; rw [h]
theorem lastsOf_some {S : Dk} {s : List UInt8} {f : Fi} (h : S.find s = some f) : S.lastsOf s = f.lasts := by unfold Dk.lastsOf; rw [h]
theorem overZ_len {l m : List UInt8} {p : Nat} (h : p + m.length ≤ l.length) : (overZ l p m).length = l.length := by
  unfold overZ
  simp; omega
theorem onB_mid (now : List UInt8) (p : Nat) (hp : p * 64 < now.length) : ((now.drop (p * 64)).take (secTo now p - p * 64)).length = secTo now p - p * 64 ∧ p * 64 < secTo now p ∧ secTo now p ≤ now.length := by
  unfold secTo
  simp; omega
theorem onB_len (now b : List UInt8) (p : Nat) (hp : p * 64 < now.length) : (onB now b p).length = max b.length (secTo now p) := by
  have h := onB_mid now p hp
  unfold onB
  rw [overZ_len (by rw [h.1]; simp; omega)]
  simp; omega
theorem onT_len {S : Dk} {keep : List Int} {ls : List Sec} {N : Nat} (hl : ∀ s, (S.lastsOf s).length ≤ N) (hn : ∀ s, (S.nowOf s).length ≤ N) (hls : ∀ x ∈ ls, x.page.toNat * 64 < (S.nowOf x.name).length) (k : Nat) (s : List UInt8) : (onT S keep ls k s).length ≤ N := by
  induction k generalizing s with
  | zero => exact hl s
  | succ k ih =>
    show ((match ls[k]? with | some x => onS S keep k x (onT S keep ls k) | none => onT S keep ls k) s).length ≤ N
    cases e : ls[k]? with
    | none => exact ih s
    | some x =>
      have hx := hls x (List.mem_of_getElem? e)
      show (onS S keep k x (onT S keep ls k) s).length ≤ N
      unfold onS
      split
      · show (if s = x.name then onB (S.nowOf x.name) (onT S keep ls k x.name) x.page.toNat else onT S keep ls k s).length ≤ N
        split
        · rw [onB_len _ _ _ hx]
          have := ih x.name
          have := hn x.name
          have := (onB_mid _ _ hx).2.2
          omega
        · exact ih s
      · exact ih s
end Go.Proofs.Ytfbbbbekialpnaa
