/-
  What stays small on a disk, operation by operation: plain.
-/
import Derived.Test.YtipankjajdpiiaaGreatSec
import Derived.Test.YtipankjajdpiiaaGreatDj
namespace Go.Proofs.YtipankjajdpiiaaGreat

/-- few files, few writes, and each loose sector is one of a file's. -/
structure Sm (S : Dk) (a b : Nat) : Prop where
  fl : S.fs.length ≤ a
  nl : S.nl ≤ b
  li : LooseIn S
def Dk.arm (S : Dk) (n : Int) : Dk × Nat := if n < 0 then (S, 1) else if S.dead then (S, 6) else ({ S with armed := n.toNat }, 0)
def Dk.setQuota (S : Dk) (n : Int) : Dk × Nat := if n < 0 ∨ 1048576 < n then (S, 1) else ({ S with quota := n.toNat }, 0)
theorem Sm.mono {S : Dk} {a b a' b' : Nat} (h : Sm S a b) (ha : a ≤ a') (hb : b ≤ b') : Sm S a' b' := ⟨Nat.le_trans h.fl ha, Nat.le_trans h.nl hb, h.li⟩
theorem Sm.new (q : Nat) : Sm (newD q) 0 0 := ⟨by simp [newD], by simp [newD], fun s k h => by simp [newD] at h⟩
theorem Sm.begin {S : Dk} {a b : Nat} (h : Sm S a b) : Sm S.begin a b :=
  ⟨by rw [begin_fs]; exact h.fl, by rw [(begin_loose S).2.1]; exact h.nl, fun s k hl => by rw [(begin_loose S).1] at hl; rw [begin_find]; exact h.li s k hl⟩
theorem Sm.arm {S : Dk} {a b : Nat} (h : Sm S a b) (n : Int) : Sm (S.arm n).1 a b := by
  unfold Dk.arm
  split
  · exact h
  · split
    · exact h
    · exact ⟨h.fl, h.nl, h.li⟩
theorem Sm.setQuota {S : Dk} {a b : Nat} (h : Sm S a b) (n : Int) : Sm (S.setQuota n).1 a b := by
  unfold Dk.setQuota
  split
  · exact h
  · exact ⟨h.fl, h.nl, h.li⟩
theorem find_append_old {S : Dk} {s n : List UInt8} {f : Fi} (h : S.find s = some f) : ({ S with fs := S.fs ++ [⟨n, [], []⟩] } : Dk).find s = some f := by
  unfold Dk.find at *
  rw [List.find?_append, h]; rfl
theorem Sm.create {S : Dk} {a b : Nat} (h : Sm S a b) (n : List UInt8) : Sm (S.create n).1 (a + 1) b := by
  have hb := h.begin.mono (a' := a + 1) (b' := b) (by omega) (by omega)
  unfold Dk.create
  split
  · exact hb
  · split
    · exact hb
    · split
      · exact hb
      · refine ⟨?_, hb.nl, fun s k hl => ?_⟩
        · show (S.fs ++ [_]).length ≤ _
          rw [List.length_append]; have := h.fl; simp; omega
        · obtain ⟨f, h1, h2⟩ := h.li s k (by rw [← (begin_loose S).1]; exact hl)
          exact ⟨f, find_append_old h1, h2⟩
theorem hits_lt {off len : Nat} {k : Int} (h : hits off len k = true) : 0 ≤ k ∧ 64 * k < (off + len : Nat) := by
  unfold hits at h
  obtain ⟨i, hi, he⟩ := List.any_eq_true.1 h
  have : i < len := List.mem_range.1 hi
  have : (((off + i) / 64 : Nat) : Int) = k := by simpa using he
  omega
theorem Sm.wrote {S : Dk} {a b : Nat} (h : Sm S a b) {n : List UInt8} {off : Nat} {m : List UInt8} {f : Fi} (hf : S.find n = some f) (ho : off ≤ f.now.length) : Sm (S.wrote n off m) a (b + m.length) := by
  refine ⟨?_, ?_, fun s k hl => ?_⟩
  · show (setF S.fs n _).length ≤ a
    rw [setF_len]; exact h.fl
  · show S.nl + m.length ≤ _
    have := h.nl; omega
  · rw [find_wrote]
    have hl2 : ((s == n && hits off m.length k) || S.loose s k) = true := hl
    have hlen : f.now.length ≤ (overZ f.now off m).length ∧ off + m.length ≤ (overZ f.now off m).length := by
      unfold overZ; simp; omega
    have hfn := (find_some hf).2
    by_cases e : s = n
    · subst e
      rw [hf]
      refine ⟨_, rfl, ?_⟩
      dsimp only
      rw [if_pos hfn]
      show 0 ≤ k ∧ 64 * k < ((overZ f.now off m).length : Int)
      cases hh : hits off m.length k with
      | true => have := hits_lt hh; omega
      | false =>
        rw [hh] at hl2
        obtain ⟨f', h1, h2⟩ := h.li s k (by simpa using hl2)
        rw [hf] at h1; cases h1
        omega
    · obtain ⟨f', h1, h2⟩ := h.li s k (by simpa [e] using hl2)
      rw [h1]
      refine ⟨_, rfl, ?_⟩
      dsimp only
      rw [if_neg (by rw [(find_some h1).2]; exact e)]
      exact h2
theorem Sm.write {S : Dk} {a b : Nat} (h : Sm S a b) (n : List UInt8) (off : Int) (m : List UInt8) : Sm (S.write n off m).1 a (b + m.length) := by
  have hb := h.begin.mono (a' := a) (b' := b + m.length) (by omega) (by omega)
  unfold Dk.write
  split
  · exact hb
  · split
    · exact hb
    · rename_i hbad
      have h0 : 0 ≤ off := by
        rcases Int.lt_or_le off 0 with h | h
        · exact absurd (.inr h) hbad
        · exact h
      cases hf : S.find n with
      | none => exact hb
      | some f =>
        show Sm (if (f.now.length : Int) < off then (S.begin, 1) else _).1 _ _
        split
        · exact hb
        · split
          · exact hb
          · split
            · exact hb
            · exact h.begin.wrote (by rw [begin_find]; exact hf) (by omega)
theorem Sm.cutTo {S : Dk} {a b : Nat} (h : Sm S a b) (n : List UInt8) (k : Nat) : Sm (S.cutTo n k) a b := by
  refine ⟨?_, h.nl, fun s j hl => ?_⟩
  · show (setF S.fs n _).length ≤ a
    rw [setF_len]; exact h.fl
  · have hl2 : (S.loose s j && !(s == n && decide ((sectors k : Int) ≤ j))) = true := hl
    rw [find_cutTo]
    obtain ⟨f', h1, h2⟩ := h.li s j (by simp at hl2; exact hl2.1)
    rw [h1]
    refine ⟨_, rfl, ?_⟩
    dsimp only
    by_cases e : f'.name = n
    · rw [if_pos e]
      have es : s = n := by rw [← (find_some h1).2]; exact e
      have h3 : j < (sectors k : Int) := by
        simp [es] at hl2; exact hl2.2
      show 0 ≤ j ∧ 64 * j < ((f'.now.take k).length : Int)
      rw [List.length_take]
      unfold sectors at h3
      omega
    · rw [if_neg e]; exact h2
theorem Sm.cut {S : Dk} {a b : Nat} (h : Sm S a b) (n : List UInt8) (k : Int) : Sm (S.cut n k).1 a b := by
  have hb := h.begin
  unfold Dk.cut
  split
  · exact hb
  · split
    · exact hb
    · cases hf : S.find n with
      | none => exact hb
      | some f =>
        show Sm (if (f.now.length : Int) < k then (S.begin, 1) else _).1 _ _
        split
        · exact hb
        · exact hb.cutTo n k.toNat
theorem Sm.synced {S : Dk} {a b : Nat} (h : Sm S a b) (n : List UInt8) : Sm (S.synced n) a b := by
  refine ⟨?_, h.nl, fun s j hl => ?_⟩
  · show (setF S.fs n _).length ≤ a
    rw [setF_len]; exact h.fl
  · have hl2 : (S.loose s j && !(s == n)) = true := hl
    rw [find_synced]
    obtain ⟨f', h1, h2⟩ := h.li s j (by simp at hl2; exact hl2.1)
    rw [h1]
    refine ⟨_, rfl, ?_⟩
    dsimp only
    by_cases e : f'.name = n
    · rw [if_pos e]; exact h2
    · rw [if_neg e]; exact h2
theorem Sm.sync {S : Dk} {a b : Nat} (h : Sm S a b) (n : List UInt8) : Sm (S.sync n).1 a b := by
  have hb := h.begin
  unfold Dk.sync
  split
  · exact hb
  · split
    · exact hb
    · cases hf : S.find n with
      | none => exact hb
      | some f => exact hb.synced n
theorem Sm.lit {S : Dk} {a b : Nat} (h : Sm S a b) (T : List UInt8 → List UInt8) : Sm (S.lit T) a 0 := ⟨by show (S.fs.map _).length ≤ a; rw [List.length_map]; exact h.fl, Nat.le_refl _, fun s k hl => by cases hl⟩
end Go.Proofs.YtipankjajdpiiaaGreat

/- A disk with one file: plain. -/
namespace Go.Proofs.YtipankjajdpiiaaGreat

structure One (S : Dk) (n now lasts : List UInt8) (q : Nat) : Prop where
  idle : Idle S
  fs : S.fs = [⟨n, now, lasts⟩]
  q : S.quota = q
section
variable {S : Dk} {n now lasts : List UInt8} {q : Nat}
theorem One.find (h : One S n now lasts q) : S.find n = some ⟨n, now, lasts⟩ := by unfold Dk.find; rw [h.fs]; simp
theorem One.used (h : One S n now lasts q) : S.used = sectors now.length := by unfold Dk.used; rw [h.fs]; simp
theorem One.fl (h : One S n now lasts q) : S.fs.length = 1 := by rw [h.fs]; rfl
theorem One.nowOf (h : One S n now lasts q) : S.nowOf n = now := nowOf_some h.find
theorem One.lastsOf (h : One S n now lasts q) : S.lastsOf n = lasts := lastsOf_some h.find
theorem one_new (q : Nat) {n : List UInt8} (hr : rightB n = true) : ((newD q).create n).2 = 0 ∧ One ((newD q).create n).1 n [] [] q := by
  have := create_idle (S := newD q) (n := n) ⟨rfl, rfl⟩ hr rfl
  rw [this]
  exact ⟨rfl, ⟨rfl, rfl⟩, rfl, rfl⟩
theorem setF_one (n now lasts : List UInt8) (g : Fi → Fi) : setF [⟨n, now, lasts⟩] n g = [g ⟨n, now, lasts⟩] := by simp [setF]
theorem One.write (h : One S n now lasts q) (hr : rightB n = true) {p : Nat} {b : List UInt8} (hp : p ≤ now.length) (hl : p + b.length ≤ 16777216) (hq : sectors (max now.length (p + b.length)) ≤ q) :
    (S.write n p b).2 = 0 ∧ One (S.write n p b).1 n (overZ now p b) lasts q ∧ (S.write n p b).1 = S.wrote n p b := by
  have e := write_idle (S := S) (n := n) (p := p) (b := b) h.idle hr h.find hp hl (by
    unfold moreS
    rw [h.used, h.q]
    show ¬ (_ ∧ (q : Int) < (sectors now.length : Int) + ((sectors (max now.length (p + b.length)) : Int) - sectors now.length))
    omega)
  rw [e]
  refine ⟨rfl, ⟨⟨h.idle.1, h.idle.2⟩, ?_, h.q⟩, rfl⟩
  show setF S.fs n _ = _
  rw [h.fs, setF_one]
theorem One.sync (h : One S n now lasts q) (hr : rightB n = true) : (S.sync n).2 = 0 ∧ One (S.sync n).1 n now now q ∧ (S.sync n).1 = S.synced n := by
  rw [sync_idle h.idle hr h.find]
  refine ⟨rfl, ⟨⟨h.idle.1, h.idle.2⟩, ?_, h.q⟩, rfl⟩
  show setF S.fs n _ = _
  rw [h.fs, setF_one]
theorem One.cut (h : One S n now lasts q) (hr : rightB n = true) {k : Nat} (hk : k ≤ now.length) : (S.cut n k).2 = 0 ∧ One (S.cut n k).1 n (now.take k) (lasts.take k) q := by
  rw [cut_idle h.idle hr h.find hk]
  refine ⟨rfl, ⟨h.idle.1, h.idle.2⟩, ?_, h.q⟩
  show setF S.fs n _ = _
  rw [h.fs, setF_one]
theorem One.cut_bad (h : One S n now lasts q) {k : Int} (hk : k < 0 ∨ (now.length : Int) < k) : (S.cut n k).2 = 1 := by
  unfold Dk.cut
  rw [h.idle.begin, if_neg (by rw [h.idle.2]; simp)]
  by_cases h0 : rightB n = false ∨ k < 0
  · rw [if_pos h0]
  · rw [if_neg h0, h.find]
    show (if (now.length : Int) < k then (S, 1) else _ : Dk × Nat).2 = 1
    rw [if_pos (by rw [not_or] at h0; omega)]
theorem One.read (h : One S n now lasts q) (hr : rightB n = true) (p k : Nat) : S.read n p k = ((now.drop p).take k, 0) := read_idle h.idle hr h.find
theorem One.size (h : One S n now lasts q) (hr : rightB n = true) : S.size n = (now.length, 0) := size_idle h.idle hr h.find
/-- the power goes at the next operation. -/
theorem One.arm (h : One S n now lasts q) (k : Nat) : S.arm k = ({ S with armed := k }, 0) := by
  unfold Dk.arm; rw [if_neg (by omega), if_neg (by rw [h.idle.2]; simp), Int.toNat_natCast]
def Dk.off (S : Dk) : Dk := { S with armed := 0, dead := true }
theorem create_off (S : Dk) (n : List UInt8) : ({ S with armed := 1 } : Dk).create n = (S.off, 6) := by
  have e : ({ S with armed := 1 } : Dk).begin = S.off := by unfold Dk.begin Dk.off; simp
  unfold Dk.create
  rw [e, if_pos (show S.off.dead = true from rfl)]
theorem sync_off (S : Dk) (n : List UInt8) : ({ S with armed := 1 } : Dk).sync n = (S.off, 6) := by
  have e : ({ S with armed := 1 } : Dk).begin = S.off := by unfold Dk.begin Dk.off; simp
  unfold Dk.sync
  rw [e, if_pos (show S.off.dead = true from rfl)]
theorem Sm.off {a b : Nat} (h : Sm S a b) : Sm S.off a b := ⟨h.fl, h.nl, h.li⟩
theorem off_nowOf (S : Dk) (s : List UInt8) : S.off.nowOf s = S.nowOf s := rfl
theorem off_lastsOf (S : Dk) (s : List UInt8) : S.off.lastsOf s = S.lastsOf s := rfl
theorem One.lit (h : One S n now lasts q) (T : List UInt8 → List UInt8) : One (S.off.lit T) n (T n) (T n) q := by
  refine ⟨⟨rfl, rfl⟩, ?_, h.q⟩
  show S.fs.map _ = _
  rw [h.fs]; rfl
end
end Go.Proofs.YtipankjajdpiiaaGreat
