/-
  Sectors in order: plain.
-/
import Derived.WalkKit
import Derived.Sort.Statements
import Derived.Shelf.SlSortCmp.Insertion
import Derived.Test.YtipankjajdpiiaaGreatPfP
namespace Go.Proofs.YtipankjajdpiiaaGreat
open Go.Sort

abbrev bl := Op.bytesLess
theorem bl_irrefl (x : List UInt8) : bl x x = false := by
  induction x with
  | nil => rfl
  | cons a x ih => simp [bl, Op.bytesLess] at ih ⊢; exact ih
theorem bl_trans : ∀ (x y z : List UInt8), bl x y = true → bl y z = true → bl x z = true
  | [], [], _, h, _ => by cases h
  | [], _ :: _, [], _, h => by cases h
  | [], _ :: _, _ :: _, _, _ => rfl
  | _ :: _, [], _, h, _ => by cases h
  | _ :: _, _ :: _, [], _, h => by cases h
  | a :: x, b :: y, c :: z, h1, h2 => by
    simp only [bl, Op.bytesLess, Bool.or_eq_true, decide_eq_true_eq, Bool.and_eq_true, beq_iff_eq] at h1 h2 ⊢
    rcases h1 with h1 | ⟨rfl, h1⟩
    · rcases h2 with h2 | ⟨rfl, h2⟩
      · exact .inl (by rw [UInt8.lt_iff_toNat_lt] at *; omega)
      · exact .inl h1
    · rcases h2 with h2 | ⟨rfl, h2⟩
      · exact .inl h2
      · exact .inr ⟨rfl, bl_trans x y z h1 h2⟩
theorem bl_tri : ∀ (x y : List UInt8), bl x y = false → bl y x = false → x = y
  | [], [], _, _ => rfl
  | [], _ :: _, h, _ => by cases h
  | _ :: _, [], _, h => by cases h
  | a :: x, b :: y, h1, h2 => by
    simp only [bl, Op.bytesLess, Bool.or_eq_false_iff, decide_eq_false_iff_not, Bool.and_eq_false_iff, beq_eq_false_iff_ne] at h1 h2
    have hab : a = b := UInt8.toNat_inj.1 (by
      have e1 := h1.1; have e2 := h2.1
      rw [UInt8.lt_iff_toNat_lt] at e1 e2; omega)
    subst hab
    rw [bl_tri x y (by rcases h1.2 with h | h; exact absurd rfl h; exact h) (by rcases h2.2 with h | h; exact absurd rfl h; exact h)]
structure Sec where
  name : List UInt8
  page : UInt32
instance : Inhabited Sec := ⟨⟨[], 0⟩⟩
def Sec.enc (s : Sec) : List Value := [.string ⟨s.name.toArray⟩, .int .i64 (s.page.toNat : Int)]
def secC (x y : Sec) : Int := if bl x.name y.name = true then -1 else if bl y.name x.name = true then 1 else (x.page.toNat : Int) - (y.page.toNat : Int)
theorem secLt (x y : Sec) : ltOf secC x y = true ↔ bl x.name y.name = true ∨ (x.name = y.name ∧ x.page.toNat < y.page.toNat) := by
  unfold ltOf secC
  by_cases h1 : bl x.name y.name = true
  · simp [h1]
  · have h1' : bl x.name y.name = false := by simpa using h1
    rw [if_neg h1]
    by_cases h2 : bl y.name x.name = true
    · rw [if_pos h2]
      constructor
      · intro h; simp at h
      · rintro (h | ⟨e, _⟩)
        · exact absurd h h1
        · rw [e, bl_irrefl] at h2; cases h2
    · rw [if_neg h2]
      have e := bl_tri _ _ h1' (by simpa using h2)
      constructor
      · intro h; right; exact ⟨e, by simp at h; omega⟩
      · rintro (h | ⟨_, h⟩)
        · exact absurd h h1
        · simp; omega
theorem secLt_no (x y : Sec) : ltOf secC x y = false ↔ bl y.name x.name = true ∨ (x.name = y.name ∧ y.page.toNat ≤ x.page.toNat) := by
  rw [Bool.eq_false_iff, Ne, secLt]
  constructor
  · intro h
    by_cases h2 : bl y.name x.name = true
    · exact .inl h2
    · have h1 : bl x.name y.name = false := by
        cases hb : bl x.name y.name with
        | false => rfl
        | true => exact absurd (.inl hb) h
      have e := bl_tri _ _ h1 (by simpa using h2)
      exact .inr ⟨e, by
        have : ¬ x.page.toNat < y.page.toNat := fun h3 => h (.inr ⟨e, h3⟩)
        omega⟩
  · rintro (h | ⟨e, h⟩) (h2 | ⟨e2, h2⟩)
    · have := bl_trans _ _ _ h h2; rw [bl_irrefl] at this; cases this
    · rw [e2, bl_irrefl] at h; cases h
    · rw [e, bl_irrefl] at h2; cases h2
    · omega
theorem swoS : SWO (ltOf secC) where
  irrefl x := by rw [secLt_no]; exact .inr ⟨rfl, Nat.le_refl _⟩
  trans x y z h1 h2 := by
    rw [secLt] at *
    rcases h1 with h1 | ⟨e1, h1⟩
    · rcases h2 with h2 | ⟨e2, h2⟩
      · exact .inl (bl_trans _ _ _ h1 h2)
      · exact .inl (by rw [← e2]; exact h1)
    · rcases h2 with h2 | ⟨e2, h2⟩
      · exact .inl (by rw [e1]; exact h2)
      · exact .inr ⟨e1.trans e2, by omega⟩
  ntrans x y z h1 h2 := by
    rw [secLt_no] at *
    rcases h1 with h1 | ⟨e1, h1⟩
    · rcases h2 with h2 | ⟨e2, h2⟩
      · exact .inl (bl_trans _ _ _ h2 h1)
      · exact .inl (by rw [← e2]; exact h1)
    · rcases h2 with h2 | ⟨e2, h2⟩
      · exact .inl (by rw [e1]; exact h2)
      · exact .inr ⟨e1.trans e2, by omega⟩
/-- strictly rising. -/
def SecUp (l : List Sec) : Prop := l.Pairwise fun x y => ltOf secC x y = true
theorem sec_ext {x y : Sec} (h1 : x.name = y.name) (h2 : x.page.toNat = y.page.toNat) : x = y := by
  obtain ⟨a, b⟩ := x; obtain ⟨c, d⟩ := y
  simp only at h1 h2
  subst h1
  rw [UInt32.toNat_inj.1 h2]
/-- no two alike, and no later one ahead: strictly rising. -/
theorem secUp_of {d : Array Sec} (hs : SortedIn (ltOf secC) 0 d.size d) (hn : d.toList.Nodup) : SecUp d.toList := by
  unfold SecUp
  rw [List.pairwise_iff_getElem]
  intro i j hi hj hij
  have h := hs i j (Nat.zero_le _) hij (by simpa using hj)
  have ei : d[i]! = d.toList[i] := by simp at hi; simp [hi]
  have ej : d[j]! = d.toList[j] := by simp at hj; simp [hj]
  rw [ei, ej, secLt_no] at h
  rw [secLt]
  rcases h with h | ⟨e, h⟩
  · exact .inl h
  · refine .inr ⟨e.symm, ?_⟩
    rcases Nat.lt_or_ge d.toList[i].page.toNat d.toList[j].page.toNat with h2 | h2
    · exact h2
    · have := sec_ext e (by omega)
      have hne := List.nodup_iff_pairwise_ne.1 hn
      rw [List.pairwise_iff_getElem] at hne
      exact absurd this.symm (hne i j hi hj hij)
end Go.Proofs.YtipankjajdpiiaaGreat

/- What On makes of a disk: plain. -/
namespace Go.Proofs.YtipankjajdpiiaaGreat

def Dk.nowOf (S : Dk) (s : List UInt8) : List UInt8 := match S.find s with | some f => f.now | none => []
def Dk.lastsOf (S : Dk) (s : List UInt8) : List UInt8 := match S.find s with | some f => f.lasts | none => []
def Dk.has (S : Dk) (s : List UInt8) : Bool := (S.find s).isSome
/-- where a sector ends. -/
def secTo (now : List UInt8) (p : Nat) : Nat := min ((p + 1) * 64) now.length
/-- what of a file lasts, when sector p of it stays, too. -/
def onB (now b : List UInt8) (p : Nat) : List UInt8 := overZ (b ++ List.replicate (secTo now p - b.length) 0) (p * 64) ((now.drop (p * 64)).take (secTo now p - p * 64))
def onS (S : Dk) (keep : List Int) (i : Nat) (x : Sec) (T : List UInt8 → List UInt8) : List UInt8 → List UInt8 :=
  if keep.contains (i : Int) = true then fun s => if s = x.name then onB (S.nowOf x.name) (T x.name) x.page.toNat else T s else T
def onT (S : Dk) (keep : List Int) (ls : List Sec) : Nat → List UInt8 → List UInt8
  | 0 => S.lastsOf
  | i + 1 => match ls[i]? with | some x => onS S keep i x (onT S keep ls i) | none => onT S keep ls i
/-- a disk that is switched on. -/
def Dk.lit (S : Dk) (T : List UInt8 → List UInt8) : Dk := { S with fs := S.fs.map (fun f => ⟨f.name, T f.name, T f.name⟩), loose := fun _ _ => false, nl := 0, armed := 0, dead := false }
/-- each loose sector is one of a file's. -/
def LooseIn (S : Dk) : Prop := ∀ s k, S.loose s k = true → ∃ f, S.find s = some f ∧ 0 ≤ k ∧ 64 * k < f.now.length
theorem nowOf_some {S : Dk} {s : List UInt8} {f : Fi} (h : S.find s = some f) : S.nowOf s = f.now := by unfold Dk.nowOf; rw [h]
theorem lastsOf_some {S : Dk} {s : List UInt8} {f : Fi} (h : S.find s = some f) : S.lastsOf s = f.lasts := by unfold Dk.lastsOf; rw [h]
theorem overZ_len {l m : List UInt8} {p : Nat} (h : p + m.length ≤ l.length) : (overZ l p m).length = l.length := by
  unfold overZ
  simp; omega
theorem onB_mid (now : List UInt8) (p : Nat) (hp : p * 64 < now.length) : ((now.drop (p * 64)).take (secTo now p - p * 64)).length = secTo now p - p * 64 ∧ p * 64 < secTo now p ∧ secTo now p ≤ now.length := by
  unfold secTo
  simp; omega
theorem onB_len (now b : List UInt8) (p : Nat) (hp : p * 64 < now.length) : (onB now b p).length = max b.length (secTo now p) := by
  have h := onB_mid now p hp
  unfold onB
  rw [overZ_len (by rw [h.1]; simp; omega)]
  simp; omega
theorem onT_len {S : Dk} {keep : List Int} {ls : List Sec} {N : Nat} (hl : ∀ s, (S.lastsOf s).length ≤ N) (hn : ∀ s, (S.nowOf s).length ≤ N) (hls : ∀ x ∈ ls, x.page.toNat * 64 < (S.nowOf x.name).length) (k : Nat) (s : List UInt8) : (onT S keep ls k s).length ≤ N := by
  induction k generalizing s with
  | zero => exact hl s
  | succ k ih =>
    show ((match ls[k]? with | some x => onS S keep k x (onT S keep ls k) | none => onT S keep ls k) s).length ≤ N
    cases e : ls[k]? with
    | none => exact ih s
    | some x =>
      have hx := hls x (List.mem_of_getElem? e)
      show (onS S keep k x (onT S keep ls k) s).length ≤ N
      unfold onS
      split
      · show (if s = x.name then onB (S.nowOf x.name) (onT S keep ls k x.name) x.page.toNat else onT S keep ls k s).length ≤ N
        split
        · rw [onB_len _ _ _ hx]
          have := ih x.name
          have := hn x.name
          have := (onB_mid _ _ hx).2.2
          omega
        · exact ih s
      · exact ih s
end Go.Proofs.YtipankjajdpiiaaGreat

/- What lies in a file that was switched on: plain. -/
namespace Go.Proofs.YtipankjajdpiiaaGreat

theorem overZ_getD {l m : List UInt8} {p : Nat} (h : p + m.length ≤ l.length) (i : Nat) : (overZ l p m).getD i 0 = if p ≤ i ∧ i < p + m.length then m.getD (i - p) 0 else l.getD i 0 := by
  unfold overZ
  simp only [List.getD_eq_getElem?_getD]
  by_cases h1 : i < p
  · rw [if_neg (by omega), List.append_assoc, List.getElem?_append_left (by simp; omega), List.getElem?_take, if_pos h1]
  · have hl : (l.take p).length = p := by simp; omega
    rw [List.append_assoc, List.getElem?_append_right (by omega), hl]
    by_cases h2 : i < p + m.length
    · rw [if_pos (by omega), List.getElem?_append_left (by omega)]
    · rw [if_neg (by omega), List.getElem?_append_right (by omega), List.getElem?_drop]
      congr 2; omega
theorem getD_pad (b : List UInt8) (n i : Nat) : (b ++ List.replicate n 0).getD i 0 = b.getD i 0 := by
  simp only [List.getD_eq_getElem?_getD]
  by_cases h : i < b.length
  · rw [List.getElem?_append_left h]
  · rw [List.getElem?_append_right (by omega), List.getElem?_eq_none (l := b) (by omega), List.getElem?_replicate]
    split <;> rfl
theorem getD_mid (l : List UInt8) (p n i : Nat) (h : i < n) : ((l.drop p).take n).getD i 0 = l.getD (p + i) 0 := by
  simp only [List.getD_eq_getElem?_getD]
  rw [List.getElem?_take, if_pos h, List.getElem?_drop]
theorem onB_getD (now b : List UInt8) (p : Nat) (hp : p * 64 < now.length) (i : Nat) : (onB now b p).getD i 0 = if i / 64 = p ∧ i < now.length then now.getD i 0 else b.getD i 0 := by
  have h := onB_mid now p hp
  unfold onB
  rw [overZ_getD (by rw [h.1]; simp; omega), h.1]
  unfold secTo at *
  by_cases hc : i / 64 = p ∧ i < now.length
  · rw [if_pos (by omega), if_pos hc, getD_mid _ _ _ _ (by omega)]
    congr 1; omega
  · rw [if_neg (by omega), if_neg hc, getD_pad]
/-- one of the first k loose sectors that stay is sector q of file s. -/
def keptB (keep : List Int) (ls : List Sec) (k : Nat) (s : List UInt8) (q : Nat) : Bool := (List.range k).any fun j => keep.contains (j : Int) && (match ls[j]? with | some x => x.name == s && x.page.toNat == q | none => false)
theorem keptB_succ (keep : List Int) (ls : List Sec) (k : Nat) (s : List UInt8) (q : Nat) : keptB keep ls (k + 1) s q = (keptB keep ls k s q || (keep.contains (k : Int) && (match ls[k]? with | some x => x.name == s && x.page.toNat == q | none => false))) := by
  unfold keptB
  rw [List.range_succ, List.any_append]
  simp
theorem ite_merge {a a' b c : Prop} [Decidable a] [Decidable a'] [Decidable b] [Decidable c] (h : a ↔ a') (u v : UInt8) : (if a ∧ c then u else if b ∧ c then u else v) = if (b ∨ a') ∧ c then u else v := by
  have e : (if a ∧ c then u else if b ∧ c then u else v) = if a' ∧ c then u else if b ∧ c then u else v := by simp only [h]
  rw [e]
  by_cases h1 : a' <;> by_cases h2 : b <;> by_cases h3 : c <;> simp [h1, h2, h3]
theorem onT_step {S : Dk} {keep : List Int} {ls : List Sec} (k : Nat) (s : List UInt8) : onT S keep ls (k + 1) s = if (keep.contains (k : Int) && (match ls[k]? with | some x => x.name == s | none => false)) = true then onB (S.nowOf s) (onT S keep ls k s) ((ls[k]?.map fun x => x.page.toNat).getD 0) else onT S keep ls k s := by
  show (match ls[k]? with | some x => onS S keep k x (onT S keep ls k) | none => onT S keep ls k) s = _
  cases e : ls[k]? with
  | none => simp
  | some x =>
    show onS S keep k x (onT S keep ls k) s = _
    unfold onS
    by_cases hk : keep.contains (k : Int) = true
    · rw [if_pos hk, hk]
      by_cases hs : s = x.name
      · subst hs; simp
      · have : (x.name == s) = false := by simpa using fun e => hs e.symm
        simp [hs, this]
    · have hk' : keep.contains (k : Int) = false := by simpa using hk
      rw [if_neg hk, hk']; simp
section
variable {S : Dk} {keep : List Int} {ls : List Sec} (hls : ∀ x ∈ ls, x.page.toNat * 64 < (S.nowOf x.name).length)
include hls
theorem onT_getD (k : Nat) (s : List UInt8) (i : Nat) : (onT S keep ls k s).getD i 0 = if keptB keep ls k s (i / 64) = true ∧ i < (S.nowOf s).length then (S.nowOf s).getD i 0 else (S.lastsOf s).getD i 0 := by
  induction k with
  | zero => rw [if_neg (by simp [keptB])]; rfl
  | succ k ih =>
    rw [onT_step, keptB_succ]
    cases e : ls[k]? with
    | none =>
      simp only [Bool.and_false, Bool.or_false, Bool.false_eq_true, if_false]
      exact ih
    | some x =>
      have hx := hls x (List.mem_of_getElem? e)
      by_cases hc : (keep.contains (k : Int) && x.name == s) = true
      · simp only [hc, if_true]
        have hs : x.name = s := by simp at hc; exact hc.2
        have hk : keep.contains (k : Int) = true := by simp only [Bool.and_eq_true] at hc; exact hc.1
        subst hs
        rw [onB_getD _ _ _ (by simpa using hx), ih, hk]
        simp only [Option.map_some, Option.getD_some, beq_self_eq_true, Bool.true_and, Bool.or_eq_true, beq_iff_eq]
        exact ite_merge ⟨Eq.symm, Eq.symm⟩ _ _
      · simp only [hc, if_false, Bool.false_eq_true]
        rw [ih]
        have : (keep.contains (k : Int) && (x.name == s && x.page.toNat == i / 64)) = false := by
          rw [Bool.eq_false_iff]
          intro h
          simp only [Bool.and_eq_true] at h hc
          exact hc ⟨h.1, h.2.1⟩
        rw [this, Bool.or_false]
theorem onT_ge (k : Nat) (s : List UInt8) : (S.lastsOf s).length ≤ (onT S keep ls k s).length ∧ ∀ j, j < k → keep.contains (j : Int) = true → ∀ x, ls[j]? = some x → x.name = s → secTo (S.nowOf s) x.page.toNat ≤ (onT S keep ls k s).length := by
  induction k with
  | zero => exact ⟨Nat.le_refl _, fun j hj => by omega⟩
  | succ k ih =>
    rw [onT_step]
    obtain ⟨ih1, ih2⟩ := ih
    by_cases hc : (keep.contains (k : Int) && (match ls[k]? with | some x => x.name == s | none => false)) = true
    · rw [if_pos hc]
      cases e : ls[k]? with
      | none => rw [e] at hc; simp at hc
      | some x =>
        rw [e] at hc
        simp only [Bool.and_eq_true, beq_iff_eq] at hc
        have hx := hls x (List.mem_of_getElem? e)
        rw [hc.2] at hx
        simp only [Option.map_some, Option.getD_some]
        rw [onB_len _ _ _ hx]
        refine ⟨by omega, fun j hj hk y hy hn => ?_⟩
        by_cases hjk : j = k
        · subst hjk; rw [e] at hy; cases hy; omega
        · have := ih2 j (by omega) hk y hy hn; omega
    · rw [if_neg hc]
      refine ⟨ih1, fun j hj hk y hy hn => ?_⟩
      by_cases hjk : j = k
      · subst hjk
        exfalso
        apply hc
        rw [hk, hy]; simp [hn]
      · exact ih2 j (by omega) hk y hy hn
theorem onT_le (k : Nat) (s : List UInt8) (h : (S.lastsOf s).length ≤ (S.nowOf s).length) : (onT S keep ls k s).length ≤ (S.nowOf s).length := by
  induction k with
  | zero => exact h
  | succ k ih =>
    rw [onT_step]
    by_cases hc : (keep.contains (k : Int) && (match ls[k]? with | some x => x.name == s | none => false)) = true
    · rw [if_pos hc]
      cases e : ls[k]? with
      | none => rw [e] at hc; simp at hc
      | some x =>
        rw [e] at hc
        simp only [Bool.and_eq_true, beq_iff_eq] at hc
        have hx := hls x (List.mem_of_getElem? e)
        rw [hc.2] at hx
        simp only [Option.map_some, Option.getD_some]
        rw [onB_len _ _ _ hx]
        have := (onB_mid _ _ hx).2.2
        omega
    · rw [if_neg hc]; exact ih
end
/-- nothing stays. -/
theorem onT_nil (S : Dk) (ls : List Sec) (k : Nat) : onT S [] ls k = S.lastsOf := by
  induction k with
  | zero => rfl
  | succ k ih =>
    show (match ls[k]? with | some x => onS S [] k x (onT S [] ls k) | none => onT S [] ls k) = _
    cases ls[k]? with
    | none => exact ih
    | some x => show onS S [] k x (onT S [] ls k) = _; unfold onS; rw [if_neg (by simp)]; exact ih
end Go.Proofs.YtipankjajdpiiaaGreat
