/-
  Sectors in order: plain.
-/
import Derived.WalkKit
import Derived.Sort.Statements
import Derived.Shelf.SlSortCmp.Insertion
import Derived.Test.YtkpmadahfmpeiaaGreatDk
import Derived.Test.YtkpmadahfmpeiaaGreatPf2
import Derived.Test.YtkpmadahfmpeiaaGreatB
import Derived.Maps.RangeWalk
import Derived.Maps.OwnSet
namespace Go.Proofs.YtkpmadahfmpeiaaGreat
open Go.Sort

abbrev bl := Op.bytesLess
theorem bl_irrefl (x : List UInt8) : bl x x = false := by
  induction x with
  | nil => rfl
  | cons a x ih => simp [bl, Op.bytesLess] at ih ⊢; exact ih
theorem bl_trans : ∀ (x y z : List UInt8), bl x y = true → bl y z = true → bl x z = true
  | [], [], _, h, _ => by cases h
  | [], _ :: _, [], _, h => by cases h
  | [], _ :: _, _ :: _, _, _ => rfl
  | _ :: _, [], _, h, _ => by cases h
  | _ :: _, _ :: _, [], _, h => by cases h
  | a :: x, b :: y, c :: z, h1, h2 => by
    simp only [bl, Op.bytesLess, Bool.or_eq_true, decide_eq_true_eq, Bool.and_eq_true, beq_iff_eq] at h1 h2 ⊢
    rcases h1 with h1 | ⟨rfl, h1⟩
    · rcases h2 with h2 | ⟨rfl, h2⟩
      · exact .inl (by rw [UInt8.lt_iff_toNat_lt] at *; omega)
      · exact .inl h1
    · rcases h2 with h2 | ⟨rfl, h2⟩
      · exact .inl h2
      · exact .inr ⟨rfl, bl_trans x y z h1 h2⟩
theorem bl_tri : ∀ (x y : List UInt8), bl x y = false → bl y x = false → x = y
  | [], [], _, _ => rfl
  | [], _ :: _, h, _ => by cases h
  | _ :: _, [], _, h => by cases h
  | a :: x, b :: y, h1, h2 => by
    simp only [bl, Op.bytesLess, Bool.or_eq_false_iff, decide_eq_false_iff_not, Bool.and_eq_false_iff, beq_eq_false_iff_ne] at h1 h2
    have hab : a = b := UInt8.toNat_inj.1 (by
      have e1 := h1.1; have e2 := h2.1
      rw [UInt8.lt_iff_toNat_lt] at e1 e2; omega)
    subst hab
    rw [bl_tri x y (by rcases h1.2 with h | h; exact absurd rfl h; exact h) (by rcases h2.2 with h | h; exact absurd rfl h; exact h)]
structure Sec where
  name : List UInt8
  page : UInt32
instance : Inhabited Sec := ⟨⟨[], 0⟩⟩
def Sec.enc (s : Sec) : List Value := [.string ⟨s.name.toArray⟩, .int .i64 (s.page.toNat : Int)]
def secC (x y : Sec) : Int := if bl x.name y.name = true then -1 else if bl y.name x.name = true then 1 else (x.page.toNat : Int) - (y.page.toNat : Int)
theorem secLt (x y : Sec) : ltOf secC x y = true ↔ bl x.name y.name = true ∨ (x.name = y.name ∧ x.page.toNat < y.page.toNat) := by
  unfold ltOf secC
  by_cases h1 : bl x.name y.name = true
  · simp [h1]
  · have h1' : bl x.name y.name = false := by simpa using h1
    rw [if_neg h1]
    by_cases h2 : bl y.name x.name = true
    · rw [if_pos h2]
      constructor
      · intro h; simp at h
      · rintro (h | ⟨e, _⟩)
        · exact absurd h h1
        · rw [e, bl_irrefl] at h2; cases h2
    · rw [if_neg h2]
      have e := bl_tri _ _ h1' (by simpa using h2)
      constructor
      · intro h; right; exact ⟨e, by simp at h; omega⟩
      · rintro (h | ⟨_, h⟩)
        · exact absurd h h1
        · simp; omega
theorem secLt_no (x y : Sec) : ltOf secC x y = false ↔ bl y.name x.name = true ∨ (x.name = y.name ∧ y.page.toNat ≤ x.page.toNat) := by
  rw [Bool.eq_false_iff, Ne, secLt]
  constructor
  · intro h
    by_cases h2 : bl y.name x.name = true
    · exact .inl h2
    · have h1 : bl x.name y.name = false := by
        cases hb : bl x.name y.name with
        | false => rfl
        | true => exact absurd (.inl hb) h
      have e := bl_tri _ _ h1 (by simpa using h2)
      exact .inr ⟨e, by
        have : ¬ x.page.toNat < y.page.toNat := fun h3 => h (.inr ⟨e, h3⟩)
        omega⟩
  · rintro (h | ⟨e, h⟩) (h2 | ⟨e2, h2⟩)
    · have := bl_trans _ _ _ h h2; rw [bl_irrefl] at this; cases this
    · rw [e2, bl_irrefl] at h; cases h
    · rw [e, bl_irrefl] at h2; cases h2
    · omega
theorem swoS : SWO (ltOf secC) where
  irrefl x := by rw [secLt_no]; exact .inr ⟨rfl, Nat.le_refl _⟩
  trans x y z h1 h2 := by
    rw [secLt] at *
    rcases h1 with h1 | ⟨e1, h1⟩
    · rcases h2 with h2 | ⟨e2, h2⟩
      · exact .inl (bl_trans _ _ _ h1 h2)
      · exact .inl (by rw [← e2]; exact h1)
    · rcases h2 with h2 | ⟨e2, h2⟩
      · exact .inl (by rw [e1]; exact h2)
      · exact .inr ⟨e1.trans e2, by omega⟩
  ntrans x y z h1 h2 := by
    rw [secLt_no] at *
    rcases h1 with h1 | ⟨e1, h1⟩
    · rcases h2 with h2 | ⟨e2, h2⟩
      · exact .inl (bl_trans _ _ _ h2 h1)
      · exact .inl (by rw [← e2]; exact h1)
    · rcases h2 with h2 | ⟨e2, h2⟩
      · exact .inl (by rw [e1]; exact h2)
      · exact .inr ⟨e1.trans e2, by omega⟩
/-- strictly rising. -/
def SecUp (l : List Sec) : Prop := l.Pairwise fun x y => ltOf secC x y = true
theorem sec_ext {x y : Sec} (h1 : x.name = y.name) (h2 : x.page.toNat = y.page.toNat) : x = y := by
  obtain ⟨a, b⟩ := x; obtain ⟨c, d⟩ := y
  simp only at h1 h2
  subst h1
  rw [UInt32.toNat_inj.1 h2]
/-- no two alike, and no later one ahead: strictly rising. -/
theorem secUp_of {d : Array Sec} (hs : SortedIn (ltOf secC) 0 d.size d) (hn : d.toList.Nodup) : SecUp d.toList := by
  unfold SecUp
  rw [List.pairwise_iff_getElem]
  intro i j hi hj hij
  have h := hs i j (Nat.zero_le _) hij (by simpa using hj)
  have ei : d[i]! = d.toList[i] := by simp at hi; simp [hi]
  have ej : d[j]! = d.toList[j] := by simp at hj; simp [hj]
  rw [ei, ej, secLt_no] at h
  rw [secLt]
  rcases h with h | ⟨e, h⟩
  · exact .inl h
  · refine .inr ⟨e.symm, ?_⟩
    rcases Nat.lt_or_ge d.toList[i].page.toNat d.toList[j].page.toNat with h2 | h2
    · exact h2
    · have := sec_ext e (by omega)
      have hne := List.nodup_iff_pairwise_ne.1 hn
      rw [List.pairwise_iff_getElem] at hne
      exact absurd this.symm (hne i j hi hj hij)
end Go.Proofs.YtkpmadahfmpeiaaGreat

/- What On makes of a disk: plain. -/
namespace Go.Proofs.YtkpmadahfmpeiaaGreat

def Dk.nowOf (S : Dk) (s : List UInt8) : List UInt8 := match S.find s with | some f => f.now | none => []
def Dk.lastsOf (S : Dk) (s : List UInt8) : List UInt8 := match S.find s with | some f => f.lasts | none => []
def Dk.has (S : Dk) (s : List UInt8) : Bool := (S.find s).isSome
/-- where a sector ends. -/
def secTo (now : List UInt8) (p : Nat) : Nat := min ((p + 1) * 64) now.length
/-- what of a file lasts, when sector p of it stays, too. -/
def onB (now b : List UInt8) (p : Nat) : List UInt8 := overZ (b ++ List.replicate (secTo now p - b.length) 0) (p * 64) ((now.drop (p * 64)).take (secTo now p - p * 64))
def onS (S : Dk) (keep : List Int) (i : Nat) (x : Sec) (T : List UInt8 → List UInt8) : List UInt8 → List UInt8 :=
  if keep.contains (i : Int) = true then fun s => if s = x.name then onB (S.nowOf x.name) (T x.name) x.page.toNat else T s else T
def onT (S : Dk) (keep : List Int) (ls : List Sec) : Nat → List UInt8 → List UInt8
  | 0 => S.lastsOf
  | i + 1 => match ls[i]? with | some x => onS S keep i x (onT S keep ls i) | none => onT S keep ls i
/-- a disk that is switched on. -/
def Dk.lit (S : Dk) (T : List UInt8 → List UInt8) : Dk := { S with fs := S.fs.map (fun f => ⟨f.name, T f.name, T f.name⟩), loose := fun _ _ => false, nl := 0, armed := 0, dead := false }
/-- each loose sector is one of a file's. -/
def LooseIn (S : Dk) : Prop := ∀ s k, S.loose s k = true → ∃ f, S.find s = some f ∧ 0 ≤ k ∧ 64 * k < f.now.length
theorem nowOf_some {S : Dk} {s : List UInt8} {f : Fi} (h : S.find s = some f) : S.nowOf s = f.now := by unfold Dk.nowOf; rw [h]
theorem lastsOf_some {S : Dk} {s : List UInt8} {f : Fi} (h : S.find s = some f) : S.lastsOf s = f.lasts := by unfold Dk.lastsOf; rw [h]
theorem overZ_len {l m : List UInt8} {p : Nat} (h : p + m.length ≤ l.length) : (overZ l p m).length = l.length := by
  unfold overZ
  simp; omega
theorem onB_mid (now : List UInt8) (p : Nat) (hp : p * 64 < now.length) : ((now.drop (p * 64)).take (secTo now p - p * 64)).length = secTo now p - p * 64 ∧ p * 64 < secTo now p ∧ secTo now p ≤ now.length := by
  unfold secTo
  simp; omega
theorem onB_len (now b : List UInt8) (p : Nat) (hp : p * 64 < now.length) : (onB now b p).length = max b.length (secTo now p) := by
  have h := onB_mid now p hp
  unfold onB
  rw [overZ_len (by rw [h.1]; simp; omega)]
  simp; omega
theorem onT_len {S : Dk} {keep : List Int} {ls : List Sec} {N : Nat} (hl : ∀ s, (S.lastsOf s).length ≤ N) (hn : ∀ s, (S.nowOf s).length ≤ N) (hls : ∀ x ∈ ls, x.page.toNat * 64 < (S.nowOf x.name).length) (k : Nat) (s : List UInt8) : (onT S keep ls k s).length ≤ N := by
  induction k generalizing s with
  | zero => exact hl s
  | succ k ih =>
    show ((match ls[k]? with | some x => onS S keep k x (onT S keep ls k) | none => onT S keep ls k) s).length ≤ N
    cases e : ls[k]? with
    | none => exact ih s
    | some x =>
      have hx := hls x (List.mem_of_getElem? e)
      show (onS S keep k x (onT S keep ls k) s).length ≤ N
      unfold onS
      split
      · show (if s = x.name then onB (S.nowOf x.name) (onT S keep ls k x.name) x.page.toNat else onT S keep ls k s).length ≤ N
        split
        · rw [onB_len _ _ _ hx]
          have := ih x.name
          have := hn x.name
          have := (onB_mid _ _ hx).2.2
          omega
        · exact ih s
      · exact ih s
end Go.Proofs.YtkpmadahfmpeiaaGreat

/- What lies in a file that was switched on: plain. -/
namespace Go.Proofs.YtkpmadahfmpeiaaGreat

theorem overZ_getD {l m : List UInt8} {p : Nat} (h : p + m.length ≤ l.length) (i : Nat) : (overZ l p m).getD i 0 = if p ≤ i ∧ i < p + m.length then m.getD (i - p) 0 else l.getD i 0 := by
  unfold overZ
  simp only [List.getD_eq_getElem?_getD]
  by_cases h1 : i < p
  · rw [if_neg (by omega), List.append_assoc, List.getElem?_append_left (by simp; omega), List.getElem?_take, if_pos h1]
  · have hl : (l.take p).length = p := by simp; omega
    rw [List.append_assoc, List.getElem?_append_right (by omega), hl]
    by_cases h2 : i < p + m.length
    · rw [if_pos (by omega), List.getElem?_append_left (by omega)]
    · rw [if_neg (by omega), List.getElem?_append_right (by omega), List.getElem?_drop]
      congr 2; omega
theorem getD_pad (b : List UInt8) (n i : Nat) : (b ++ List.replicate n 0).getD i 0 = b.getD i 0 := by
  simp only [List.getD_eq_getElem?_getD]
  by_cases h : i < b.length
  · rw [List.getElem?_append_left h]
  · rw [List.getElem?_append_right (by omega), List.getElem?_eq_none (l := b) (by omega), List.getElem?_replicate]
    split <;> rfl
theorem getD_mid (l : List UInt8) (p n i : Nat) (h : i < n) : ((l.drop p).take n).getD i 0 = l.getD (p + i) 0 := by
  simp only [List.getD_eq_getElem?_getD]
  rw [List.getElem?_take, if_pos h, List.getElem?_drop]
theorem onB_getD (now b : List UInt8) (p : Nat) (hp : p * 64 < now.length) (i : Nat) : (onB now b p).getD i 0 = if i / 64 = p ∧ i < now.length then now.getD i 0 else b.getD i 0 := by
  have h := onB_mid now p hp
  unfold onB
  rw [overZ_getD (by rw [h.1]; simp; omega), h.1]
  unfold secTo at *
  by_cases hc : i / 64 = p ∧ i < now.length
  · rw [if_pos (by omega), if_pos hc, getD_mid _ _ _ _ (by omega)]
    congr 1; omega
  · rw [if_neg (by omega), if_neg hc, getD_pad]
/-- one of the first k loose sectors that stay is sector q of file s. -/
def keptB (keep : List Int) (ls : List Sec) (k : Nat) (s : List UInt8) (q : Nat) : Bool := (List.range k).any fun j => keep.contains (j : Int) && (match ls[j]? with | some x => x.name == s && x.page.toNat == q | none => false)
theorem keptB_succ (keep : List Int) (ls : List Sec) (k : Nat) (s : List UInt8) (q : Nat) : keptB keep ls (k + 1) s q = (keptB keep ls k s q || (keep.contains (k : Int) && (match ls[k]? with | some x => x.name == s && x.page.toNat == q | none => false))) := by
  unfold keptB
  rw [List.range_succ, List.any_append]
  simp
theorem ite_merge {a a' b c : Prop} [Decidable a] [Decidable a'] [Decidable b] [Decidable c] (h : a ↔ a') (u v : UInt8) : (if a ∧ c then u else if b ∧ c then u else v) = if (b ∨ a') ∧ c then u else v := by
  have e : (if a ∧ c then u else if b ∧ c then u else v) = if a' ∧ c then u else if b ∧ c then u else v := by simp only [h]
  rw [e]
  by_cases h1 : a' <;> by_cases h2 : b <;> by_cases h3 : c <;> simp [h1, h2, h3]
theorem onT_step {S : Dk} {keep : List Int} {ls : List Sec} (k : Nat) (s : List UInt8) : onT S keep ls (k + 1) s = if (keep.contains (k : Int) && (match ls[k]? with | some x => x.name == s | none => false)) = true then onB (S.nowOf s) (onT S keep ls k s) ((ls[k]?.map fun x => x.page.toNat).getD 0) else onT S keep ls k s := by
  show (match ls[k]? with | some x => onS S keep k x (onT S keep ls k) | none => onT S keep ls k) s = _
  cases e : ls[k]? with
  | none => simp
  | some x =>
    show onS S keep k x (onT S keep ls k) s = _
    unfold onS
    by_cases hk : keep.contains (k : Int) = true
    · rw [if_pos hk, hk]
      by_cases hs : s = x.name
      · subst hs; simp
      · have : (x.name == s) = false := by simpa using fun e => hs e.symm
        simp [hs, this]
    · have hk' : keep.contains (k : Int) = false := by simpa using hk
      rw [if_neg hk, hk']; simp
section
variable {S : Dk} {keep : List Int} {ls : List Sec} (hls : ∀ x ∈ ls, x.page.toNat * 64 < (S.nowOf x.name).length)
include hls
theorem onT_getD (k : Nat) (s : List UInt8) (i : Nat) : (onT S keep ls k s).getD i 0 = if keptB keep ls k s (i / 64) = true ∧ i < (S.nowOf s).length then (S.nowOf s).getD i 0 else (S.lastsOf s).getD i 0 := by
  induction k with
  | zero => rw [if_neg (by simp [keptB])]; rfl
  | succ k ih =>
    rw [onT_step, keptB_succ]
    cases e : ls[k]? with
    | none =>
      simp only [Bool.and_false, Bool.or_false, Bool.false_eq_true, if_false]
      exact ih
    | some x =>
      have hx := hls x (List.mem_of_getElem? e)
      by_cases hc : (keep.contains (k : Int) && x.name == s) = true
      · simp only [hc, if_true]
        have hs : x.name = s := by simp at hc; exact hc.2
        have hk : keep.contains (k : Int) = true := by simp only [Bool.and_eq_true] at hc; exact hc.1
        subst hs
        rw [onB_getD _ _ _ (by simpa using hx), ih, hk]
        simp only [Option.map_some, Option.getD_some, beq_self_eq_true, Bool.true_and, Bool.or_eq_true, beq_iff_eq]
        exact ite_merge ⟨Eq.symm, Eq.symm⟩ _ _
      · simp only [hc, if_false, Bool.false_eq_true]
        rw [ih]
        have : (keep.contains (k : Int) && (x.name == s && x.page.toNat == i / 64)) = false := by
          rw [Bool.eq_false_iff]
          intro h
          simp only [Bool.and_eq_true] at h hc
          exact hc ⟨h.1, h.2.1⟩
        rw [this, Bool.or_false]
theorem onT_ge (k : Nat) (s : List UInt8) : (S.lastsOf s).length ≤ (onT S keep ls k s).length ∧ ∀ j, j < k → keep.contains (j : Int) = true → ∀ x, ls[j]? = some x → x.name = s → secTo (S.nowOf s) x.page.toNat ≤ (onT S keep ls k s).length := by
  induction k with
  | zero => exact ⟨Nat.le_refl _, fun j hj => by omega⟩
  | succ k ih =>
    rw [onT_step]
    obtain ⟨ih1, ih2⟩ := ih
    by_cases hc : (keep.contains (k : Int) && (match ls[k]? with | some x => x.name == s | none => false)) = true
    · rw [if_pos hc]
      cases e : ls[k]? with
      | none => rw [e] at hc; simp at hc
      | some x =>
        rw [e] at hc
        simp only [Bool.and_eq_true, beq_iff_eq] at hc
        have hx := hls x (List.mem_of_getElem? e)
        rw [hc.2] at hx
        simp only [Option.map_some, Option.getD_some]
        rw [onB_len _ _ _ hx]
        refine ⟨by omega, fun j hj hk y hy hn => ?_⟩
        by_cases hjk : j = k
        · subst hjk; rw [e] at hy; cases hy; omega
        · have := ih2 j (by omega) hk y hy hn; omega
    · rw [if_neg hc]
      refine ⟨ih1, fun j hj hk y hy hn => ?_⟩
      by_cases hjk : j = k
      · subst hjk
        exfalso
        apply hc
        rw [hk, hy]; simp [hn]
      · exact ih2 j (by omega) hk y hy hn
theorem onT_le (k : Nat) (s : List UInt8) (h : (S.lastsOf s).length ≤ (S.nowOf s).length) : (onT S keep ls k s).length ≤ (S.nowOf s).length := by
  induction k with
  | zero => exact h
  | succ k ih =>
    rw [onT_step]
    by_cases hc : (keep.contains (k : Int) && (match ls[k]? with | some x => x.name == s | none => false)) = true
    · rw [if_pos hc]
      cases e : ls[k]? with
      | none => rw [e] at hc; simp at hc
      | some x =>
        rw [e] at hc
        simp only [Bool.and_eq_true, beq_iff_eq] at hc
        have hx := hls x (List.mem_of_getElem? e)
        rw [hc.2] at hx
        simp only [Option.map_some, Option.getD_some]
        rw [onB_len _ _ _ hx]
        have := (onB_mid _ _ hx).2.2
        omega
    · rw [if_neg hc]; exact ih
end
/-- nothing stays. -/
theorem onT_nil (S : Dk) (ls : List Sec) (k : Nat) : onT S [] ls k = S.lastsOf := by
  induction k with
  | zero => rfl
  | succ k ih =>
    show (match ls[k]? with | some x => onS S [] k x (onT S [] ls k) | none => onT S [] ls k) = _
    cases ls[k]? with
    | none => exact ih
    | some x => show onS S [] k x (onT S [] ls k) = _; unfold onS; rw [if_neg (by simp)]; exact ih
end Go.Proofs.YtkpmadahfmpeiaaGreat

/- What stays small on a disk, operation by operation: plain. -/
namespace Go.Proofs.YtkpmadahfmpeiaaGreat

/-- few files, few writes, and each loose sector is one of a file's. -/
structure Sm (S : Dk) (a b : Nat) : Prop where
  fl : S.fs.length ≤ a
  nl : S.nl ≤ b
  li : LooseIn S
def Dk.arm (S : Dk) (n : Int) : Dk × Nat := if n < 0 then (S, 1) else if S.dead then (S, 6) else ({ S with armed := n.toNat }, 0)
def Dk.setQuota (S : Dk) (n : Int) : Dk × Nat := if n < 0 ∨ 1048576 < n then (S, 1) else ({ S with quota := n.toNat }, 0)
theorem Sm.mono {S : Dk} {a b a' b' : Nat} (h : Sm S a b) (ha : a ≤ a') (hb : b ≤ b') : Sm S a' b' := ⟨Nat.le_trans h.fl ha, Nat.le_trans h.nl hb, h.li⟩
theorem Sm.new (q : Nat) : Sm (newD q) 0 0 := ⟨by simp [newD], by simp [newD], fun s k h => by simp [newD] at h⟩
theorem Sm.begin {S : Dk} {a b : Nat} (h : Sm S a b) : Sm S.begin a b :=
  ⟨by rw [begin_fs]; exact h.fl, by rw [(begin_loose S).2.1]; exact h.nl, fun s k hl => by rw [(begin_loose S).1] at hl; rw [begin_find]; exact h.li s k hl⟩
theorem Sm.arm {S : Dk} {a b : Nat} (h : Sm S a b) (n : Int) : Sm (S.arm n).1 a b := by
  unfold Dk.arm
  split
  · exact h
  · split
    · exact h
    · exact ⟨h.fl, h.nl, h.li⟩
theorem Sm.setQuota {S : Dk} {a b : Nat} (h : Sm S a b) (n : Int) : Sm (S.setQuota n).1 a b := by
  unfold Dk.setQuota
  split
  · exact h
  · exact ⟨h.fl, h.nl, h.li⟩
theorem find_append_old {S : Dk} {s n : List UInt8} {f : Fi} (h : S.find s = some f) : ({ S with fs := S.fs ++ [⟨n, [], []⟩] } : Dk).find s = some f := by
  unfold Dk.find at *
  rw [List.find?_append, h]; rfl
theorem Sm.create {S : Dk} {a b : Nat} (h : Sm S a b) (n : List UInt8) : Sm (S.create n).1 (a + 1) b := by
  have hb := h.begin.mono (a' := a + 1) (b' := b) (by omega) (by omega)
  unfold Dk.create
  split
  · exact hb
  · split
    · exact hb
    · split
      · exact hb
      · refine ⟨?_, hb.nl, fun s k hl => ?_⟩
        · show (S.fs ++ [_]).length ≤ _
          rw [List.length_append]; have := h.fl; simp; omega
        · obtain ⟨f, h1, h2⟩ := h.li s k (by rw [← (begin_loose S).1]; exact hl)
          exact ⟨f, find_append_old h1, h2⟩
theorem hits_lt {off len : Nat} {k : Int} (h : hits off len k = true) : 0 ≤ k ∧ 64 * k < (off + len : Nat) := by
  unfold hits at h
  obtain ⟨i, hi, he⟩ := List.any_eq_true.1 h
  have : i < len := List.mem_range.1 hi
  have : (((off + i) / 64 : Nat) : Int) = k := by simpa using he
  omega
theorem Sm.wrote {S : Dk} {a b : Nat} (h : Sm S a b) {n : List UInt8} {off : Nat} {m : List UInt8} {f : Fi} (hf : S.find n = some f) (ho : off ≤ f.now.length) : Sm (S.wrote n off m) a (b + m.length) := by
  refine ⟨?_, ?_, fun s k hl => ?_⟩
  · show (setF S.fs n _).length ≤ a
    rw [setF_len]; exact h.fl
  · show S.nl + m.length ≤ _
    have := h.nl; omega
  · rw [find_wrote]
    have hl2 : ((s == n && hits off m.length k) || S.loose s k) = true := hl
    have hlen : f.now.length ≤ (overZ f.now off m).length ∧ off + m.length ≤ (overZ f.now off m).length := by
      unfold overZ; simp; omega
    have hfn := (find_some hf).2
    by_cases e : s = n
    · subst e
      rw [hf]
      refine ⟨_, rfl, ?_⟩
      dsimp only
      rw [if_pos hfn]
      show 0 ≤ k ∧ 64 * k < ((overZ f.now off m).length : Int)
      cases hh : hits off m.length k with
      | true => have := hits_lt hh; omega
      | false =>
        rw [hh] at hl2
        obtain ⟨f', h1, h2⟩ := h.li s k (by simpa using hl2)
        rw [hf] at h1; cases h1
        omega
    · obtain ⟨f', h1, h2⟩ := h.li s k (by simpa [e] using hl2)
      rw [h1]
      refine ⟨_, rfl, ?_⟩
      dsimp only
      rw [if_neg (by rw [(find_some h1).2]; exact e)]
      exact h2
theorem Sm.write {S : Dk} {a b : Nat} (h : Sm S a b) (n : List UInt8) (off : Int) (m : List UInt8) : Sm (S.write n off m).1 a (b + m.length) := by
  have hb := h.begin.mono (a' := a) (b' := b + m.length) (by omega) (by omega)
  unfold Dk.write
  split
  · exact hb
  · split
    · exact hb
    · rename_i hbad
      have h0 : 0 ≤ off := by
        rcases Int.lt_or_le off 0 with h | h
        · exact absurd (.inr h) hbad
        · exact h
      cases hf : S.find n with
      | none => exact hb
      | some f =>
        show Sm (if (f.now.length : Int) < off then (S.begin, 1) else _).1 _ _
        split
        · exact hb
        · split
          · exact hb
          · split
            · exact hb
            · exact h.begin.wrote (by rw [begin_find]; exact hf) (by omega)
theorem Sm.cutTo {S : Dk} {a b : Nat} (h : Sm S a b) (n : List UInt8) (k : Nat) : Sm (S.cutTo n k) a b := by
  refine ⟨?_, h.nl, fun s j hl => ?_⟩
  · show (setF S.fs n _).length ≤ a
    rw [setF_len]; exact h.fl
  · have hl2 : (S.loose s j && !(s == n && decide ((sectors k : Int) ≤ j))) = true := hl
    rw [find_cutTo]
    obtain ⟨f', h1, h2⟩ := h.li s j (by simp at hl2; exact hl2.1)
    rw [h1]
    refine ⟨_, rfl, ?_⟩
    dsimp only
    by_cases e : f'.name = n
    · rw [if_pos e]
      have es : s = n := by rw [← (find_some h1).2]; exact e
      have h3 : j < (sectors k : Int) := by
        simp [es] at hl2; exact hl2.2
      show 0 ≤ j ∧ 64 * j < ((f'.now.take k).length : Int)
      rw [List.length_take]
      unfold sectors at h3
      omega
    · rw [if_neg e]; exact h2
theorem Sm.cut {S : Dk} {a b : Nat} (h : Sm S a b) (n : List UInt8) (k : Int) : Sm (S.cut n k).1 a b := by
  have hb := h.begin
  unfold Dk.cut
  split
  · exact hb
  · split
    · exact hb
    · cases hf : S.find n with
      | none => exact hb
      | some f =>
        show Sm (if (f.now.length : Int) < k then (S.begin, 1) else _).1 _ _
        split
        · exact hb
        · exact hb.cutTo n k.toNat
theorem Sm.synced {S : Dk} {a b : Nat} (h : Sm S a b) (n : List UInt8) : Sm (S.synced n) a b := by
  refine ⟨?_, h.nl, fun s j hl => ?_⟩
  · show (setF S.fs n _).length ≤ a
    rw [setF_len]; exact h.fl
  · have hl2 : (S.loose s j && !(s == n)) = true := hl
    rw [find_synced]
    obtain ⟨f', h1, h2⟩ := h.li s j (by simp at hl2; exact hl2.1)
    rw [h1]
    refine ⟨_, rfl, ?_⟩
    dsimp only
    by_cases e : f'.name = n
    · rw [if_pos e]; exact h2
    · rw [if_neg e]; exact h2
theorem Sm.sync {S : Dk} {a b : Nat} (h : Sm S a b) (n : List UInt8) : Sm (S.sync n).1 a b := by
  have hb := h.begin
  unfold Dk.sync
  split
  · exact hb
  · split
    · exact hb
    · cases hf : S.find n with
      | none => exact hb
      | some f => exact hb.synced n
theorem Sm.lit {S : Dk} {a b : Nat} (h : Sm S a b) (T : List UInt8 → List UInt8) : Sm (S.lit T) a 0 := ⟨by show (S.fs.map _).length ≤ a; rw [List.length_map]; exact h.fl, Nat.le_refl _, fun s k hl => by cases hl⟩
end Go.Proofs.YtkpmadahfmpeiaaGreat

/- A map that a call has made, read key by key: any program, any keys, any elements. -/
namespace Go.Proofs.YtkpmadahfmpeiaaGreat
open Go.RowKit Go.Maps
set_option maxRecDepth 100000

abbrev DV := DataW Value
def rV (v : Value) : Option (DV × List MemPlace) := some (.held v, [])
/-- keys of a type. -/
structure KeyK (P : Program) (k : TypeId) (κ : Type) where
  kv : κ → Value
  kl : κ → Lit
  key : ∀ x, keyOf P k (kv x) = some (kl x)
  inv : ∀ v l, keyOf P k v = some l → ∃ x, v = kv x ∧ l = kl x
  inj : ∀ x y, kl x = kl y → x = y
  isK : ∀ x, WideAt.IsKeyLit (kl x)
  keyed : Keyed P k
def VD {P : Program} {k : TypeId} {κ : Type} (J : KeyK P k κ) (D : DV) (dom : κ → Option Value) : Prop :=
  ∀ x, (dom x = none → has D (J.kl x) = false) ∧ ∀ v, dom x = some v → has D (J.kl x) = true ∧ ∀ z, D.atKey (J.kl x) z = .held v
/-- block m is a map that reads so. -/
def VM {P : Program} {k : TypeId} {κ : Type} (J : KeyK P k κ) (w : World) (m n : Nat) (dom : κ → Option Value) : Prop :=
  ∃ D : DV, w.ownsMap P k rV m n D ∧ VD J D dom
/-- a range over such a map: which keys are still to come. -/
def VR {P : Program} {k : TypeId} {κ : Type} (J : KeyK P k κ) (w : World) (m r n : Nat) (dom : κ → Option Value) (left : κ → Bool) (cnt : Nat) : Prop :=
  ∃ (D : DV) (lf : Lit → Bool), w.ranges P k rV m r n D lf cnt ∧ VD J D dom ∧ (∀ x, lf (J.kl x) = left x) ∧ ∀ kl, lf kl = true → has D kl = true
section
variable {P : Program} {k : TypeId} {κ : Type} {J : KeyK P k κ} {w w' : World} {m n : Nat} {dom : κ → Option Value}
theorem VM.lt (h : VM J w m n dom) : m < w.heap.size := by obtain ⟨D, h, _⟩ := h; exact h.lt
theorem VM.gr (h : VM J w m n dom) {r : Option Nat} (hg : w.grownBy w' r) (hr : r ≠ some m) : VM J w' m n dom := by
  obtain ⟨D, h, h2⟩ := h
  exact ⟨D, h.kept hg (fun e => hr e.symm), h2⟩
theorem VM.ext (h : VM J w m n dom) (hg : w.grownBy w' none) : VM J w' m n dom := h.gr hg (by simp)
theorem VM.mono (h : VM J w m n dom) {n' : Nat} (hn : n ≤ n') : VM J w m n' dom := by
  obtain ⟨D, h, h2⟩ := h
  exact ⟨D, h.mono hn, h2⟩
theorem VM.made (J : KeyK P k κ) (w : World) : VM J (w.alloc (.map #[] 0)) w.heap.size 0 (fun _ => none) :=
  ⟨_, World.ownsMap_made w _ _ _, fun _ => ⟨fun _ => rfl, fun _ h => by cases h⟩⟩
theorem VM.same (h : VM J w m n dom) (hb : w'.heap[m]? = w.heap[m]?) : VM J w' m n dom := by
  obtain ⟨D, ⟨es, cl, h1, h2⟩, h3⟩ := h
  exact ⟨D, ⟨es, cl, hb.trans h1, h2⟩, h3⟩
theorem rV_inv {v u : Value} {ps : List MemPlace} (h : rV v = some (.held u, ps)) : v = u := by simp [rV] at h; exact h.1
/-- m[x]. -/
theorem VM.look (h : VM J w m n dom) {t e : TypeId} (ht : P.underlying t = some (.map k e)) {z : Value} (hz : (zeroValue e).run P w = .ok z w) (x : κ) :
    (Instr.lookup t (.map (some m)) (J.kv x) false).run P w = .ok ((dom x).getD z) w := by
  obtain ⟨D, h, h0⟩ := h
  obtain ⟨v, ps, hrun, hv⟩ := h.lookup J.keyed ht hz (zd := .held z) (zp := []) rfl (J.key x)
  rw [hrun]
  cases hd : dom x with
  | none => rw [atKey_of_not_has ((h0 x).1 hd)] at hv; rw [rV_inv hv]; rfl
  | some b => rw [((h0 x).2 b hd).2] at hv; rw [rV_inv hv]; rfl
/-- m[x], and whether it is there. -/
theorem VM.look2 (h : VM J w m n dom) {t e : TypeId} (ht : P.underlying t = some (.map k e)) {z : Value} (hz : (zeroValue e).run P w = .ok z w) (x : κ) :
    (Instr.lookup t (.map (some m)) (J.kv x) true).run P w = .ok (.tuple #[(dom x).getD z, .bool (dom x).isSome]) w := by
  obtain ⟨D, h, h0⟩ := h
  obtain ⟨v, ps, hrun, hv⟩ := h.look_ok J.keyed ht hz (zd := .held z) (zp := []) rfl (J.key x)
  rw [hrun]
  cases hd : dom x with
  | none => rw [atKey_of_not_has ((h0 x).1 hd)] at hv; rw [rV_inv hv, (h0 x).1 hd]; rfl
  | some b => rw [((h0 x).2 b hd).2] at hv; rw [rV_inv hv, ((h0 x).2 b hd).1]; rfl
theorem VM.isMap {D : DV} (K : Keyed P k) (h : w.ownsMap P k rV m n D) : IsMap D := by
  obtain ⟨es, e, _⟩ := h.entries K; exact ⟨es, e⟩
theorem VD.put {D : DV} (hD : IsMap D) (h : VD J D dom) [DecidableEq κ] (x : κ) (v : Value) : VD J (D.put (J.kl x) (.held v)) (fun y => if y = x then some v else dom y) := by
  intro y
  by_cases e : y = x
  · subst e
    simp only [if_true]
    exact ⟨fun h => (by cases h), fun u hu => (by cases hu; exact ⟨has_put_same hD (J.isK _) _, fun z => atKey_put_same hD (J.isK _) _ _⟩)⟩
  · have hne : J.kl y ≠ J.kl x := fun he => e (J.inj _ _ he)
    simp only [e, if_false]
    exact ⟨fun hn => by rw [has_put_other hne]; exact (h y).1 hn, fun u hu => ⟨by rw [has_put_other hne]; exact ((h y).2 u hu).1, fun z => by rw [atKey_put_other hne]; exact ((h y).2 u hu).2 z⟩⟩
/-- m[x] = v. -/
theorem wp_vm_put [DecidableEq κ] {ops : Array Oper} {rest : List Oper} {o : Oper} {a : Act} {Q : Exit → Act → World → Prop} (hg : o.guard = none) {t e : TypeId} (mm x v : Operand) (hop : o.op = .mapUpdate t mm x v)
    (ht : P.underlying t = some (.map k e)) (h : VM J w m n dom) (hm : a.eval mm = .map (some m)) (hn : n < maxLen) (y : κ) (hx : a.eval x = J.kv y) (u : Value) (hv : a.eval v = u)
    (hK : ∀ w', VM J w' m (n + 1) (fun z => if z = y then some u else dom z) → w.grownBy w' (some m) → wpList P ops Q rest (a.put o.dst undef) w') : wpList P ops Q (o :: rest) a w := by
  obtain ⟨D, h, h0⟩ := h
  exact wpList_mapUpdate_own w hg mm x v _ hop k e J.keyed ht rV m n D hm h hn _ _ _ hx hv (J.key y) (.held u) [] rfl
    fun w' h' g' => hK w' ⟨_, h', VD.put (VM.isMap J.keyed h) h0 y u⟩ g'
theorem VR.vm {r cnt : Nat} {left : κ → Bool} (h : VR J w m r n dom left cnt) : VM J w m n dom := by
  obtain ⟨D, lf, h, h0, _⟩ := h
  exact ⟨D, h.owns, h0⟩
theorem VR.gr {r cnt : Nat} {left : κ → Bool} (h : VR J w m r n dom left cnt) {q : Option Nat} (hg : w.grownBy w' q) (hq : q ≠ some m) (hr : q ≠ some r) : VR J w' m r n dom left cnt := by
  obtain ⟨D, lf, h, h2⟩ := h
  exact ⟨D, lf, h.kept hg (fun e => hq e.symm) (fun e => hr e.symm), h2⟩
theorem VR.left_eq {r cnt : Nat} {left : κ → Bool} (h : VR J w m r n dom left cnt) : w.rangeLeft m r = cnt := by
  obtain ⟨D, lf, h, _⟩ := h; exact h.left_eq
theorem VR.lt {r cnt : Nat} {left : κ → Bool} (h : VR J w m r n dom left cnt) : r < w.heap.size ∧ r ≠ m := by
  obtain ⟨D, lf, h, _⟩ := h; exact ⟨h.lt, h.ne⟩
/-- range m. -/
theorem wp_vm_range {ops : Array Oper} {rest : List Oper} {o : Oper} {a : Act} {Q : Exit → Act → World → Prop} (hg : o.guard = none) {t e : TypeId} (mm : Operand) (hop : o.op = .range t mm)
    (ht : P.underlying t = some (.map k e)) (h : VM J w m n dom) (hm : a.eval mm = .map (some m))
    (hK : ∀ w' cnt, cnt ≤ n → VR J w' m w.heap.size n dom (fun x => (dom x).isSome) cnt → w.grownBy w' none → w'.heap.size = w.heap.size + 1 → wpList P ops Q rest (a.put o.dst (.pointer (some ⟨w.heap.size, 0, none⟩))) w') :
    wpList P ops Q (o :: rest) a w := by
  obtain ⟨D, h, h0⟩ := h
  exact wpList_range_own w hg mm _ hop k e J.keyed ht rV m n D hm h
    fun w' r1 r2 r3 => hK w' _ h.size_le ⟨D, _, r1, h0, fun x => by
      cases hd : dom x with
      | none => show _ = (dom x).isSome; rw [hd]; exact (h0 x).1 hd
      | some b => show _ = (dom x).isSome; rw [hd]; exact ((h0 x).2 b hd).1, fun _ e => e⟩ r2 r3
/-- the step. -/
theorem wp_vm_next [BEq κ] [LawfulBEq κ] {ops : Array Oper} {rest : List Oper} {o : Oper} {a : Act} {Q : Exit → Act → World → Prop} (hg : o.guard = none) (it : Operand) (hop : o.op = .next it false)
    {r cnt : Nat} {left : κ → Bool} (h : VR J w m r n dom left cnt) (hit : a.eval it = .pointer (some ⟨r, 0, none⟩))
    (hDone : cnt = 0 → (∀ x, left x = false) → wpList P ops Q rest (a.put o.dst (.tuple #[.bool false])) w)
    (hMore : ∀ (x : κ) (u : Value) (w' : World) (cnt' : Nat), left x = true → dom x = some u → VR J w' m r n dom (fun y => left y && !(y == x)) cnt' → cnt' < cnt → w.grownBy w' (some r) → w'.heap.size = w.heap.size →
      (Instr.entry (.pointer (some ⟨r, 0, none⟩))).run P w' = .ok (.tuple #[J.kv x, u]) w' → wpList P ops Q rest (a.put o.dst (.tuple #[.bool true, J.kv x, u])) w') :
    wpList P ops Q (o :: rest) a w := by
  obtain ⟨D, lf, h, h0, h2, h3⟩ := h
  refine wpList_plain hg fun K' hK' => ?_
  unfold Oper.wp
  rcases h.next J.keyed o.type with ⟨hc, hl, hrun⟩ | ⟨key, v, kl, y, w', cnt', hkey, hlk, hv, hat, hrun, hrg, hlt, hgr, hsz, hen⟩
  · simp [execOp, hop, hit, hrun, Result.andThen]
    exact hK' _ _ (hDone hc fun s => by rw [← h2]; exact hl _)
  · obtain ⟨s, rfl, rfl⟩ := J.inv _ _ hkey
    have hls : left s = true := by rw [← h2]; exact hlk
    cases hd : dom s with
    | none => have := h3 _ hlk; rw [(h0 s).1 hd] at this; cases this
    | some b =>
      have hy := hat .nil
      rw [((h0 s).2 b hd).2] at hy
      obtain ⟨y1, y2⟩ := y
      simp only at hy
      subst hy
      obtain rfl := rV_inv hv
      simp [execOp, hop, hit, hrun, Result.andThen]
      refine hK' _ _ (hMore s v w' cnt' hls hd ⟨D, _, hrg, h0, fun x => ?_, fun kl hk => ?_⟩ hlt hgr hsz hen)
      · show (lf (J.kl x) && !(J.kl x).sameKey (J.kl s)) = (left x && !(x == s))
        rw [h2]
        congr 2
        by_cases e : x = s
        · subst e
          rw [WideAt.sameKey_self (J.isK x)]
          simp
        · rw [sameKey_ne (fun he => e (J.inj _ _ he))]
          symm
          simpa using e
      · exact h3 kl (by simp at hk; exact hk.1)
end
/-! keys that are whole numbers below 2^32 -/
def u32K (P : Program) (k : TypeId) (hk : P.underlying k = some (.int .u32)) : KeyK P k UInt32 where
  kv x := .int .u32 x.toNat
  kl x := .int .u32 x.toNat
  key x := keyOf_int_mk hk (by have := x.toNat_lt; have e1 : IntKind.u32.min = 0 := rfl; have e2 : IntKind.u32.max = 4294967295 := rfl; simp [Lit.wf, e1, e2]; omega)
  inv v l h := by
    obtain ⟨x, rfl, rfl, hw⟩ := keyOf_int_inv hk h
    have e1 : IntKind.u32.min = 0 := rfl
    have e2 : IntKind.u32.max = 4294967295 := rfl
    simp [Lit.wf, e1, e2] at hw
    obtain ⟨y, rfl⟩ : ∃ y : UInt32, x = (y.toNat : Int) := ⟨UInt32.ofNat x.toNat, by rw [UInt32.toNat_ofNat_of_lt' (by show _ < 4294967296; omega)]; omega⟩
    exact ⟨y, rfl, rfl⟩
  inj x y h := by
    have : (x.toNat : Int) = y.toNat := by simpa using h
    exact UInt32.toNat_inj.1 (by omega)
  isK x := trivial
  keyed := int_keyed hk
end Go.Proofs.YtkpmadahfmpeiaaGreat
