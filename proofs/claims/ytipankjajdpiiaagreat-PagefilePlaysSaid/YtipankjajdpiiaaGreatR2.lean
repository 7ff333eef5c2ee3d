/-
  The document's disk as plain data, and what its operations do to it.
-/
import Derived.Test.YtipankjajdpiiaaGreatRen
import Derived.Test.YtipankjajdpiiaaGreatFa
import Derived.Test.YtipankjajdpiiaaGreatOne
import Derived.Test.YtipankjajdpiiaaGreatOn3a
import Derived.Test.YtipankjajdpiiaaGreatLoose
namespace Go.Proofs.YtipankjajdpiiaaGreat
set_option maxRecDepth 100000

structure Rf where
  n : List UInt8
  now : List UInt8
  lasts : List UInt8
  loose : List Bool
structure RD where
  L : List Rf
  q : Nat
  armed : Nat
  off : Bool
def Rf.fi (f : Rf) : Fi := ⟨f.n, f.now, f.lasts⟩
def RD.begin (R : RD) : RD := if 0 < R.armed then { R with armed := R.armed - 1, off := R.off || decide (R.armed = 1) } else R
def RD.find (R : RD) (n : List UInt8) : Option Rf := R.L.find? fun f => f.n == n
def setR (L : List Rf) (n : List UInt8) (g : Rf → Rf) : List Rf := L.map fun f => if f.n = n then g f else f
def putR (L : List Rf) (f : Rf) : List Rf := (L.takeWhile fun x => bl x.n f.n) ++ f :: (L.dropWhile fun x => bl x.n f.n)
def RD.used (R : RD) : Nat := (R.L.map fun f => sectors f.now.length).sum
def RD.create (R : RD) (n : List UInt8) : RD × Nat :=
  if R.begin.off then (R.begin, 6) else if rightB n = false then (R.begin, 1) else if (R.find n).isSome then (R.begin, 4) else ({ R.begin with L := putR R.L ⟨n, [], [], []⟩ }, 0)
def RD.remove (R : RD) (n : List UInt8) : RD × Nat :=
  if R.begin.off then (R.begin, 6) else if rightB n = false then (R.begin, 1) else
  match R.find n with
  | none => (R.begin, 3)
  | some _ => ({ R.begin with L := R.L.filter fun f => !(f.n == n) }, 0)
/-- the sectors that are loose behind a write. -/
def hitL (l : List Bool) (end_ off len : Nat) : List Bool := (List.range (max l.length (sectors end_))).map fun k => l.getD k false || hits off len (k : Int)
def RD.wrote (R : RD) (n : List UInt8) (off : Nat) (b : List UInt8) : RD :=
  { R with L := setR R.L n fun f => { f with now := overZ f.now off b, loose := hitL f.loose (max f.now.length (off + b.length)) off b.length } }
def RD.write (R : RD) (n : List UInt8) (off : Int) (b : List UInt8) : RD × Nat :=
  if R.begin.off then (R.begin, 6) else if rightB n = false ∨ off < 0 then (R.begin, 1) else
  match R.find n with
  | none => (R.begin, 3)
  | some f =>
    if (f.now.length : Int) < off then (R.begin, 1) else if 16777216 - off < b.length then (R.begin, 9) else
    if 0 < (sectors (max f.now.length (off.toNat + b.length)) : Int) - sectors f.now.length ∧ (R.q : Int) < R.used + ((sectors (max f.now.length (off.toNat + b.length)) : Int) - sectors f.now.length) then (R.begin, 5)
    else (R.begin.wrote n off.toNat b, 0)
def RD.cutTo (R : RD) (n : List UInt8) (k : Nat) : RD :=
  { R with L := setR R.L n fun f => { f with now := f.now.take k, lasts := f.lasts.take k, loose := f.loose.take (sectors k) } }
def RD.cut (R : RD) (n : List UInt8) (k : Int) : RD × Nat :=
  if R.begin.off then (R.begin, 6) else if rightB n = false ∨ k < 0 then (R.begin, 1) else
  match R.find n with
  | none => (R.begin, 3)
  | some f => if (f.now.length : Int) < k then (R.begin, 1) else (R.begin.cutTo n k.toNat, 0)
def RD.synced (R : RD) (n : List UInt8) : RD := { R with L := setR R.L n fun f => { f with lasts := f.now, loose := [] } }
def RD.sync (R : RD) (n : List UInt8) : RD × Nat :=
  if R.begin.off then (R.begin, 6) else if rightB n = false then (R.begin, 1) else
  match R.find n with
  | none => (R.begin, 3)
  | some _ => (R.begin.synced n, 0)
def RD.size (R : RD) (n : List UInt8) : Nat × Nat :=
  if R.off then (0, 6) else if rightB n = false then (0, 1) else
  match R.find n with
  | none => (0, 3)
  | some f => (f.now.length, 0)
def RD.read (R : RD) (n : List UInt8) (off k : Int) : List UInt8 × Nat :=
  if R.off then ([], 6) else if rightB n = false ∨ off < 0 ∨ k < 0 then ([], 1) else
  match R.find n with
  | none => ([], 3)
  | some f => ((f.now.drop off.toNat).take k.toNat, 0)
def RD.arm (R : RD) (n : Int) : RD × Nat := if n < 0 then (R, 1) else if R.off then (R, 6) else ({ R with armed := n.toNat }, 0)
def RD.setQuota (R : RD) (n : Int) : RD × Nat := if n < 0 ∨ 1048576 < n then (R, 1) else ({ R with q := n.toNat }, 0)
def RD.flip (R : RD) (n : List UInt8) (p : Nat) (m : UInt8) : RD := { R with L := setR R.L n fun f => { f with now := flipL f.now p m, lasts := flipL f.lasts p m } }
/-- the loose sectors of a file, and of all. -/
def looseF (f : Rf) : List Nat := (List.range f.loose.length).filter fun k => f.loose.getD k false
def looseR (L : List Rf) : List (List UInt8 × Nat) := L.flatMap fun f => (looseF f).map fun k => (f.n, k)
/-- what lasts of the bytes of s, when the first i of the loose sectors stay as they shall. -/
def onL (now lasts : List UInt8) (keep : List Int) (ls : List (List UInt8 × Nat)) (s : List UInt8) : Nat → List UInt8
  | 0 => lasts
  | i + 1 => match ls[i]? with
    | some x => if keep.contains (i : Int) = true ∧ s = x.1 then onB now (onL now lasts keep ls s i) x.2 else onL now lasts keep ls s i
    | none => onL now lasts keep ls s i
def litR (keep : List Int) (L : List Rf) (f : Rf) : Rf :=
  let b := onL f.now f.lasts keep (looseR L) f.n (looseR L).length
  ⟨f.n, b, b, []⟩
def RD.on (R : RD) (keep : List Int) : RD := { R with L := R.L.map (litR keep R.L), armed := 0, off := false }

/-- the document's disk says what the program's does. -/
structure Sim (S : Dk) (R : RD) : Prop where
  q : R.q = S.quota
  armed : R.armed = S.armed
  off : R.off = S.dead
  up : R.L.Pairwise fun x y => bl x.n y.n = true
  fs : (R.L.map Rf.fi).Perm S.fs
  loose : ∀ f ∈ R.L, ∀ k : Nat, f.loose.getD k false = S.loose f.n (k : Int)
  li : LooseIn S
section
variable {S : Dk} {R : RD} {n : List UInt8}
theorem up_nodup {L : List Rf} (h : L.Pairwise fun x y => bl x.n y.n = true) : (L.map Rf.n).Nodup := by
  unfold List.Nodup
  rw [List.pairwise_map]
  exact h.imp fun {x y} hxy e => by rw [e, bl_irrefl] at hxy; cases hxy
theorem find_perm {l m : List Fi} (h : l.Perm m) (hn : (l.map Fi.name).Nodup) (n : List UInt8) : l.find? (fun f => f.name == n) = m.find? (fun f => f.name == n) := by
  have hm : (m.map Fi.name).Nodup := (h.map Fi.name).nodup_iff.1 hn
  have key : ∀ (l : List Fi), (l.map Fi.name).Nodup → ∀ f, l.find? (fun f => f.name == n) = some f ↔ f ∈ l ∧ f.name = n := by
    intro l
    induction l with
    | nil => intro _ f; simp
    | cons a t ih =>
      intro hd f
      rw [List.map_cons, List.nodup_cons] at hd
      rw [List.find?_cons]
      by_cases e : a.name = n
      · rw [show (a.name == n) = true from by simpa using e]
        constructor
        · intro h9; cases h9; exact ⟨by simp, e⟩
        · rintro ⟨h1, h2⟩
          rcases List.mem_cons.1 h1 with h1 | h1
          · rw [h1]
          · exact absurd (List.mem_map.2 ⟨f, h1, h2.trans e.symm⟩) hd.1
      · rw [show (a.name == n) = false from by simpa using e]
        constructor
        · intro h9
          have := (ih hd.2 f).1 h9
          exact ⟨List.mem_cons_of_mem _ this.1, this.2⟩
        · rintro ⟨h1, h2⟩
          rcases List.mem_cons.1 h1 with h1 | h1
          · rw [h1] at h2; exact absurd h2 e
          · exact (ih hd.2 f).2 ⟨h1, h2⟩
  apply Option.ext
  intro f
  show l.find? _ = some f ↔ m.find? _ = some f
  rw [key l hn f, key m hm f, h.mem_iff]
theorem Sim.nodup (h : Sim S R) : (R.L.map Rf.n).Nodup := up_nodup h.up
theorem map_fi_name (L : List Rf) : (L.map Rf.fi).map Fi.name = L.map Rf.n := by rw [List.map_map]; rfl
theorem find_fi (L : List Rf) (n : List UInt8) : (L.map Rf.fi).find? (fun f => f.name == n) = (L.find? fun f => f.n == n).map Rf.fi := by
  rw [List.find?_map]; rfl
theorem Sim.find (h : Sim S R) (n : List UInt8) : S.find n = (R.find n).map Rf.fi := by
  unfold Dk.find RD.find
  rw [← find_perm h.fs (by rw [map_fi_name]; exact h.nodup) n, find_fi]
theorem rfind_some {f : Rf} (hf : R.find n = some f) : f ∈ R.L ∧ f.n = n := by
  unfold RD.find at hf
  exact ⟨List.mem_of_find?_eq_some hf, by simpa using List.find?_some hf⟩
theorem sum_perm {l m : List Nat} (h : l.Perm m) : l.sum = m.sum := by
  induction h with
  | nil => rfl
  | cons a _ ih => rw [List.sum_cons, List.sum_cons, ih]
  | swap a b l => simp only [List.sum_cons]; omega
  | trans _ _ ih1 ih2 => exact ih1.trans ih2
theorem mem_putR {L : List Rf} {f g : Rf} : g ∈ putR L f ↔ g = f ∨ g ∈ L := by
  have e : ∀ p : Rf → Bool, L = L.takeWhile p ++ L.dropWhile p := fun p => (List.takeWhile_append_dropWhile).symm
  have e2 := e (fun x => bl x.n f.n)
  unfold putR
  rw [List.mem_append, List.mem_cons]
  constructor
  · rintro (h | h | h)
    · exact .inr (by rw [e2]; exact List.mem_append_left _ h)
    · exact .inl h
    · exact .inr (by rw [e2]; exact List.mem_append_right _ h)
  · rintro (h | h)
    · exact .inr (.inl h)
    · rw [e2] at h
      rcases List.mem_append.1 h with h | h
      · exact .inl h
      · exact .inr (.inr h)
theorem putR_cons (a : Rf) (t : List Rf) (f : Rf) : putR (a :: t) f = if bl a.n f.n = true then a :: putR t f else f :: a :: t := by
  unfold putR
  rw [List.takeWhile_cons, List.dropWhile_cons]
  split <;> rfl
theorem putR_up {f : Rf} : ∀ {L : List Rf}, (L.Pairwise fun x y => bl x.n y.n = true) → (∀ x ∈ L, x.n ≠ f.n) → (putR L f).Pairwise fun x y => bl x.n y.n = true
  | [], _, _ => by simp [putR]
  | a :: t, h, hn => by
    rw [List.pairwise_cons] at h
    rw [putR_cons]
    split
    · next hb =>
      rw [List.pairwise_cons]
      refine ⟨fun x hx => ?_, putR_up h.2 fun x hx => hn x (List.mem_cons_of_mem _ hx)⟩
      rcases mem_putR.1 hx with e | hx
      · rw [e]; exact hb
      · exact h.1 x hx
    · next hb =>
      have hfa : bl f.n a.n = true := by
        cases e : bl f.n a.n with
        | true => rfl
        | false => exact absurd (bl_tri _ _ (by simpa using hb) e) (hn a (by simp))
      rw [List.pairwise_cons]
      refine ⟨fun x hx => ?_, List.pairwise_cons.2 h⟩
      rcases List.mem_cons.1 hx with e | hx
      · rw [e]; exact hfa
      · exact bl_trans _ _ _ hfa (h.1 x hx)
theorem find_noneR {n : List UInt8} (h : (R.find n).isSome = false) : ∀ x ∈ R.L, x.n ≠ n := fun x hx e => by
  unfold RD.find at h
  have : (R.L.find? fun f => f.n == n).isSome = true := List.find?_isSome.2 ⟨x, hx, by simpa using e⟩
  rw [this] at h; cases h
theorem Sim.used (h : Sim S R) : R.used = S.used := by
  unfold RD.used Dk.used
  have := sum_perm (h.fs.map fun f => sectors f.now.length)
  rw [List.map_map] at this
  exact this
theorem begin_simp (h : Sim S R) : Sim S.begin R.begin ∧ R.begin.L = R.L ∧ R.begin.q = R.q ∧ R.begin.off = S.begin.dead := by
  have hb := begin_loose S
  have hL : R.begin.L = R.L := by unfold RD.begin; split <;> rfl
  have hq : R.begin.q = R.q := by unfold RD.begin; split <;> rfl
  have ha : R.begin.armed = S.begin.armed := by unfold RD.begin Dk.begin; rw [h.armed]; split <;> first | rfl | exact h.armed
  have ho : R.begin.off = S.begin.dead := by
    unfold RD.begin Dk.begin
    rw [h.armed]
    split
    · show (R.off || _) = (S.dead || _)
      rw [h.off]
    · exact h.off
  refine ⟨⟨by rw [hq, hb.2.2]; exact h.q, ha, ho, by rw [hL]; exact h.up, by rw [hL, begin_fs]; exact h.fs, ?_, ?_⟩, hL, hq, ho⟩
  · rw [hL, hb.1]; exact h.loose
  · intro s k hl
    rw [hb.1] at hl
    rw [begin_find]; exact h.li s k hl
/-- a file is another one, in both. -/
theorem Sim.set (h : Sim S R) {g : Rf → Rf} {g' : Fi → Fi} (hg : ∀ f, (g f).n = f.n) (hgg : ∀ f ∈ R.L, f.n = n → (g f).fi = g' f.fi) {lo : List UInt8 → Int → Bool} {nl : Nat}
    (hlo : ∀ f ∈ R.L, ∀ k : Nat, (if f.n = n then g f else f).loose.getD k false = lo f.n (k : Int)) (hli : LooseIn { S with fs := setF S.fs n g', loose := lo, nl := nl }) :
    Sim { S with fs := setF S.fs n g', loose := lo, nl := nl } { R with L := setR R.L n g } := by
  have hn : ∀ f, (if f.n = n then g f else f).n = f.n := fun f => by split; exact hg f; rfl
  refine ⟨h.q, h.armed, h.off, ?_, ?_, ?_, hli⟩
  · show (setR R.L n g).Pairwise _
    unfold setR
    rw [List.pairwise_map]
    exact h.up.imp fun {x y} hxy => by rw [hn, hn]; exact hxy
  · show ((setR R.L n g).map Rf.fi).Perm (setF S.fs n g')
    have e : (setR R.L n g).map Rf.fi = setF (R.L.map Rf.fi) n g' := by
      unfold setR setF
      rw [List.map_map, List.map_map]
      refine List.map_congr_left fun f hf => ?_
      show (if f.n = n then g f else f).fi = if f.fi.name = n then g' f.fi else f.fi
      by_cases e : f.n = n
      · rw [if_pos e, if_pos (show f.fi.name = n from e)]; exact hgg f hf e
      · rw [if_neg e, if_neg (show ¬ f.fi.name = n from e)]
    rw [e]
    exact h.fs.map _
  · intro f hf k
    obtain ⟨f0, h0, rfl⟩ := List.mem_map.1 hf
    rw [hlo f0 h0 k, hn]
/-! the operations -/
theorem sim_create (h : Sim S R) (n : List UInt8) {a b : Nat} (hs : Sm S a b) : (R.create n).2 = (S.create n).2 ∧ Sim (S.create n).1 (R.create n).1 := by
  obtain ⟨hb, hL, hq, ho⟩ := begin_simp h
  have hfi := h.find n
  have hsm := (hs.create n).li
  unfold RD.create Dk.create at *
  rw [ho]
  split
  · exact ⟨rfl, hb⟩
  · split
    · exact ⟨rfl, hb⟩
    · rw [hfi, Option.isSome_map]
      split
      · exact ⟨rfl, hb⟩
      · next h1 h2 h3 =>
        rw [if_neg h1, if_neg h2, hfi, Option.isSome_map, if_neg h3] at hsm
        refine ⟨rfl, ⟨hb.q, hb.armed, hb.off, ?_, ?_, ?_, hsm⟩⟩
        · show (putR R.L ⟨n, [], [], []⟩).Pairwise _
          exact putR_up h.up (find_noneR (by simpa using h3))
        · show ((putR R.L ⟨n, [], [], []⟩).map Rf.fi).Perm (S.fs ++ [⟨n, [], []⟩])
          unfold putR
          rw [List.map_append, List.map_cons]
          refine List.perm_middle.trans ?_
          rw [← List.map_append, List.takeWhile_append_dropWhile]
          exact (List.Perm.cons _ h.fs).trans (List.perm_append_comm (l₁ := [_]))
        · intro f hf k
          have hf2 : f ∈ putR R.L ⟨n, [], [], []⟩ := hf
          show f.loose.getD k false = S.begin.loose f.n k
          rw [(begin_loose S).1]
          rcases mem_putR.1 hf2 with hf2 | hf2
          · subst hf2
            show false = S.loose n k
            cases e : S.loose n k with
            | false => rfl
            | true =>
              obtain ⟨f, hf, -⟩ := h.li n k e
              rw [hfi] at hf
              rw [Option.map_eq_some_iff] at hf
              obtain ⟨y, hy, -⟩ := hf
              rw [hy] at h3; simp at h3
          · exact h.loose f hf2 k
end
end Go.Proofs.YtipankjajdpiiaaGreat

/- The document's disk tells what the program's does, operation by operation: plain. -/
namespace Go.Proofs.YtipankjajdpiiaaGreat
set_option maxRecDepth 100000

section
variable {S : Dk} {R : RD} {n : List UInt8} {a b : Nat}
theorem sim_remove (h : Sim S R) (n : List UInt8) : (R.remove n).2 = (S.remove n).2 ∧ Sim (S.remove n).1 (R.remove n).1 := by
  obtain ⟨hb, hL, hq, ho⟩ := begin_simp h
  have hfi := h.find n
  unfold RD.remove Dk.remove at *
  rw [ho]
  split
  · exact ⟨rfl, hb⟩
  · split
    · exact ⟨rfl, hb⟩
    · rw [hfi]
      cases R.find n with
      | none => exact ⟨rfl, hb⟩
      | some f =>
        refine ⟨rfl, ⟨hb.q, hb.armed, hb.off, h.up.filter _, ?_, ?_, ?_⟩⟩
        · show ((R.L.filter fun f => !(f.n == n)).map Rf.fi).Perm (butF S.begin.fs n)
          rw [begin_fs]
          have e : (R.L.filter fun f => !(f.n == n)).map Rf.fi = (R.L.map Rf.fi).filter fun f => !(f.name == n) := by
            rw [List.filter_map]; rfl
          rw [e]
          exact h.fs.filter _
        · intro g hg k
          have hg2 : g ∈ R.L.filter fun f => !(f.n == n) := hg
          obtain ⟨k1, k2⟩ := List.mem_filter.1 hg2
          show g.loose.getD k false = (S.begin.loose g.n k && !(g.n == n))
          rw [(begin_loose S).1, h.loose g k1 k, k2, Bool.and_true]
        · intro s k hl
          have hl2 : (S.begin.loose s k && !(s == n)) = true := hl
          rw [(begin_loose S).1] at hl2
          simp at hl2
          obtain ⟨f, h1, h2⟩ := h.li s k hl2.1
          refine ⟨f, ?_, h2⟩
          show (butF S.begin.fs n).find? _ = _
          rw [begin_fs, butF_find, if_neg hl2.2]
          exact h1
theorem hits_rng {off len : Nat} {k : Int} (h : hits off len k = true) : 0 ≤ k ∧ 64 * k < (off + len : Nat) := hits_lt h
theorem hitL_getD (l : List Bool) {end_ off len : Nat} (he : off + len ≤ end_) (k : Nat) : (hitL l end_ off len).getD k false = (hits off len (k : Int) || l.getD k false) := by
  unfold hitL
  rw [List.getD_eq_getElem?_getD, List.getElem?_map]
  by_cases hk : k < max l.length (sectors end_)
  · rw [List.getElem?_range hk]
    show (l.getD k false || hits off len (k : Int)) = _
    rw [Bool.or_comm]
  · rw [List.getElem?_eq_none (by rw [List.length_range]; omega)]
    have h1 : l.getD k false = false := by rw [List.getD_eq_getElem?_getD, List.getElem?_eq_none (by omega)]; rfl
    have h2 : hits off len (k : Int) = false := by
      cases e : hits off len (k : Int) with
      | false => rfl
      | true =>
        have := hits_rng e
        unfold sectors at hk
        omega
    rw [h1, h2]; rfl
theorem sim_write (h : Sim S R) (n : List UInt8) (off : Int) (m : List UInt8) (hs : Sm S a b) : (R.write n off m).2 = (S.write n off m).2 ∧ Sim (S.write n off m).1 (R.write n off m).1 := by
  obtain ⟨hb, hL, hq, ho⟩ := begin_simp h
  have hfi := h.find n
  have hu := h.used
  have hsm := (hs.write n off m).li
  unfold RD.write Dk.write at *
  rw [ho]
  split
  · exact ⟨rfl, hb⟩
  · next h1 =>
    rw [if_neg h1] at hsm
    split
    · exact ⟨rfl, hb⟩
    · next h2 =>
      rw [if_neg h2] at hsm
      rw [hfi] at hsm ⊢
      cases hf : R.find n with
      | none => exact ⟨rfl, hb⟩
      | some f =>
        rw [hf] at hsm
        dsimp only [Option.map_some] at hsm ⊢
        rw [show f.fi.now = f.now from rfl] at hsm ⊢
        split
        · exact ⟨rfl, hb⟩
        · next h3 =>
          rw [if_neg h3] at hsm
          split
          · exact ⟨rfl, hb⟩
          · next h4 =>
            rw [if_neg h4] at hsm
            rw [hu, h.q]
            split
            · exact ⟨rfl, hb⟩
            · next h5 =>
              rw [if_neg h5] at hsm
              refine ⟨rfl, ?_⟩
              have hb2 := hb
              have := hb.set (n := n) (g := fun f => { f with now := overZ f.now off.toNat m, lasts := f.lasts, loose := hitL f.loose (max f.now.length (off.toNat + m.length)) off.toNat m.length }) (g' := fun f => { f with now := overZ f.now off.toNat m }) (lo := fun s k => (s == n && hits off.toNat m.length k) || S.begin.loose s k) (nl := S.begin.nl + m.length) (fun _ => rfl) (fun _ _ _ => rfl) (fun f hf k => ?_) hsm
              · exact this
              · have hl := hb.loose f hf k
                by_cases e : f.n = n
                · rw [if_pos e, show (f.n == n) = true from by simpa using e, Bool.true_and, ← hl]
                  exact hitL_getD _ (by omega) k
                · rw [if_neg e, show (f.n == n) = false from by simpa using e, Bool.false_and, Bool.false_or]
                  exact hl
theorem sim_cut (h : Sim S R) (n : List UInt8) (k : Int) (hs : Sm S a b) : (R.cut n k).2 = (S.cut n k).2 ∧ Sim (S.cut n k).1 (R.cut n k).1 := by
  obtain ⟨hb, hL, hq, ho⟩ := begin_simp h
  have hfi := h.find n
  have hsm := (hs.cut n k).li
  unfold RD.cut Dk.cut at *
  rw [ho]
  split
  · exact ⟨rfl, hb⟩
  · next h1 =>
    rw [if_neg h1] at hsm
    split
    · exact ⟨rfl, hb⟩
    · next h2 =>
      rw [if_neg h2] at hsm
      rw [hfi] at hsm ⊢
      cases hf : R.find n with
      | none => exact ⟨rfl, hb⟩
      | some f =>
        rw [hf] at hsm
        dsimp only [Option.map_some] at hsm ⊢
        rw [show f.fi.now = f.now from rfl] at hsm ⊢
        split
        · exact ⟨rfl, hb⟩
        · next h3 =>
          rw [if_neg h3] at hsm
          refine ⟨rfl, ?_⟩
          have := hb.set (n := n) (g := fun f => { f with now := f.now.take k.toNat, lasts := f.lasts.take k.toNat, loose := f.loose.take (sectors k.toNat) }) (g' := fun f => { f with now := f.now.take k.toNat, lasts := f.lasts.take k.toNat }) (lo := fun s j => S.begin.loose s j && !(s == n && decide ((sectors k.toNat : Int) ≤ j))) (nl := S.begin.nl) (fun _ => rfl) (fun _ _ _ => rfl) (fun f hf j => ?_) hsm
          · exact this
          · have hl := hb.loose f hf j
            by_cases e : f.n = n
            · rw [if_pos e, show (f.n == n) = true from by simpa using e, Bool.true_and, ← hl]
              show (f.loose.take (sectors k.toNat)).getD j false = _
              rw [List.getD_eq_getElem?_getD, List.getElem?_take]
              by_cases hj : j < sectors k.toNat
              · rw [if_pos hj, show decide ((sectors k.toNat : Int) ≤ (j : Int)) = false from decide_eq_false (by omega), Bool.not_false, Bool.and_true, List.getD_eq_getElem?_getD]
              · rw [if_neg hj, show decide ((sectors k.toNat : Int) ≤ (j : Int)) = true from decide_eq_true (by omega), Bool.not_true, Bool.and_false]; rfl
            · rw [if_neg e, show (f.n == n) = false from by simpa using e, Bool.false_and, Bool.not_false, Bool.and_true]
              exact hl
theorem sim_sync (h : Sim S R) (n : List UInt8) (hs : Sm S a b) : (R.sync n).2 = (S.sync n).2 ∧ Sim (S.sync n).1 (R.sync n).1 := by
  obtain ⟨hb, hL, hq, ho⟩ := begin_simp h
  have hfi := h.find n
  have hsm := (hs.sync n).li
  unfold RD.sync Dk.sync at *
  rw [ho]
  split
  · exact ⟨rfl, hb⟩
  · next h1 =>
    rw [if_neg h1] at hsm
    split
    · exact ⟨rfl, hb⟩
    · next h2 =>
      rw [if_neg h2] at hsm
      rw [hfi] at hsm ⊢
      cases hf : R.find n with
      | none => exact ⟨rfl, hb⟩
      | some f =>
        rw [hf] at hsm
        refine ⟨rfl, ?_⟩
        have := hb.set (n := n) (g := fun f => { f with lasts := f.now, loose := [] }) (g' := fun f => { f with lasts := f.now }) (lo := fun s j => S.begin.loose s j && !(s == n)) (nl := S.begin.nl) (fun _ => rfl) (fun _ _ _ => rfl) (fun f hf j => ?_) hsm
        · exact this
        · have hl := hb.loose f hf j
          by_cases e : f.n = n
          · rw [if_pos e, show (f.n == n) = true from by simpa using e, Bool.not_true, Bool.and_false]; rfl
          · rw [if_neg e, show (f.n == n) = false from by simpa using e, Bool.not_false, Bool.and_true]
            exact hl
theorem sim_size (h : Sim S R) (n : List UInt8) : R.size n = S.size n := by
  unfold RD.size Dk.size
  rw [h.off, h.find n]
  cases R.find n <;> rfl
theorem sim_read (h : Sim S R) (n : List UInt8) (off k : Int) : R.read n off k = S.read n off k := by
  unfold RD.read Dk.read
  rw [h.off, h.find n]
  cases R.find n <;> rfl
theorem sim_arm (h : Sim S R) (n : Int) : (R.arm n).2 = (S.arm n).2 ∧ Sim (S.arm n).1 (R.arm n).1 := by
  unfold RD.arm Dk.arm
  rw [h.off]
  split
  · exact ⟨rfl, h⟩
  · split
    · exact ⟨rfl, h⟩
    · exact ⟨rfl, ⟨h.q, rfl, rfl, h.up, h.fs, h.loose, h.li⟩⟩
theorem sim_quota (h : Sim S R) (n : Int) : (R.setQuota n).2 = (S.setQuota n).2 ∧ Sim (S.setQuota n).1 (R.setQuota n).1 := by
  unfold RD.setQuota Dk.setQuota
  split
  · exact ⟨rfl, h⟩
  · exact ⟨rfl, ⟨rfl, h.armed, h.off, h.up, h.fs, h.loose, h.li⟩⟩
theorem sim_flip (h : Sim S R) (n : List UInt8) (p : Nat) (m : UInt8) (hli : LooseIn (S.flip n p m)) : Sim (S.flip n p m) (R.flip n p m) := by
  have := h.set (n := n) (g := fun f => { f with now := flipL f.now p m, lasts := flipL f.lasts p m }) (g' := fun f => { f with now := flipL f.now p m, lasts := flipL f.lasts p m }) (lo := S.loose) (nl := S.nl) (fun _ => rfl) (fun _ _ _ => rfl) (fun f hf j => ?_) hli
  · exact this
  · have hl := h.loose f hf j
    split
    · exact hl
    · exact hl
end
end Go.Proofs.YtipankjajdpiiaaGreat

/- The document's On tells what the program's does: plain. -/
namespace Go.Proofs.YtipankjajdpiiaaGreat
open Go.Sort
set_option maxRecDepth 100000

def pr (x : Sec) : List UInt8 × Nat := (x.name, x.page.toNat)
def prLt (x y : List UInt8 × Nat) : Prop := bl x.1 y.1 = true ∨ (x.1 = y.1 ∧ x.2 < y.2)
theorem prLt_no {x y : List UInt8 × Nat} (h : prLt x y) (k : prLt y x) : x = y := by
  exfalso
  rcases h with h | ⟨h, h'⟩
  · rcases k with k | ⟨k, -⟩
    · have := bl_trans _ _ _ h k
      rw [bl_irrefl] at this; cases this
    · rw [k, bl_irrefl] at h; cases h
  · rcases k with k | ⟨-, k'⟩
    · rw [h, bl_irrefl] at k; cases k
    · omega
theorem prLt_ne {x y : List UInt8 × Nat} (h : prLt x y) : x ≠ y := fun e => by
  subst e
  rcases h with h | ⟨-, h⟩
  · rw [bl_irrefl] at h; cases h
  · omega
theorem mem_looseF {f : Rf} {k : Nat} : k ∈ looseF f ↔ f.loose.getD k false = true := by
  unfold looseF
  rw [List.mem_filter, List.mem_range]
  refine ⟨fun h => h.2, fun h => ⟨?_, h⟩⟩
  rcases Nat.lt_or_ge k f.loose.length with h9 | h9
  · exact h9
  · rw [List.getD_eq_getElem?_getD, List.getElem?_eq_none h9] at h; cases h
section
variable {S : Dk} {R : RD}
theorem looseR_up (h : Sim S R) : (looseR R.L).Pairwise prLt := by
  unfold looseR
  rw [List.pairwise_flatMap]
  refine ⟨fun f _ => ?_, ?_⟩
  · rw [List.pairwise_map]
    exact ((List.pairwise_lt_range).filter _).imp fun {x y} hxy => .inr ⟨rfl, hxy⟩
  · refine h.up.imp fun {x y} hxy u hu v hv => ?_
    obtain ⟨i, -, rfl⟩ := List.mem_map.1 hu
    obtain ⟨j, -, rfl⟩ := List.mem_map.1 hv
    exact .inl hxy
theorem mem_looseR (h : Sim S R) {s : List UInt8} {k : Nat} : (s, k) ∈ looseR R.L ↔ S.loose s (k : Int) = true := by
  unfold looseR
  rw [List.mem_flatMap]
  constructor
  · rintro ⟨f, hf, hm⟩
    obtain ⟨j, hj, e⟩ := List.mem_map.1 hm
    have e1 : f.n = s := congrArg Prod.fst e
    have e2 : j = k := congrArg Prod.snd e
    subst e1 e2
    rw [← h.loose f hf j]
    exact mem_looseF.1 hj
  · intro hl
    obtain ⟨f, hf, -⟩ := h.li s k hl
    rw [h.find s, Option.map_eq_some_iff] at hf
    obtain ⟨g, hg, -⟩ := hf
    obtain ⟨g1, g2⟩ := rfind_some hg
    refine ⟨g, g1, List.mem_map.2 ⟨k, mem_looseF.2 ?_, by rw [g2]⟩⟩
    rw [h.loose g g1 k, g2]; exact hl
theorem ls_eq (h : Sim S R) {ls : List Sec} (hl : LsIs S ls) (hok : ∀ s k, S.loose s k = true → okK s k) : ls.map pr = looseR R.L := by
  have hup : (ls.map pr).Pairwise prLt := by
    rw [List.pairwise_map]
    exact hl.1.imp fun {x y} hxy => (secLt x y).1 hxy
  have hmem : ∀ x, x ∈ ls.map pr ↔ x ∈ looseR R.L := by
    rintro ⟨s, k⟩
    rw [mem_looseR h, List.mem_map]
    constructor
    · rintro ⟨x, hx, e⟩
      have e1 : x.name = s := congrArg Prod.fst e
      have e2 : x.page.toNat = k := congrArg Prod.snd e
      subst e1 e2
      exact (hl.2.1 _ _ (hl.2.2 x hx)).2 ⟨x.page, hx, rfl⟩
    · intro hs
      obtain ⟨p, hp, e⟩ := (hl.2.1 s k (hok s k hs)).1 hs
      exact ⟨_, hp, by show (s, p.toNat) = (s, k); rw [show p.toNat = k from by omega]⟩
  have hperm : (ls.map pr).Perm (looseR R.L) := (List.perm_ext_iff_of_nodup (hup.imp fun {_ _} h => prLt_ne h) ((looseR_up h).imp fun {_ _} h => prLt_ne h)).2 hmem
  exact hperm.eq_of_pairwise (le := prLt) (fun _ _ _ _ h1 h2 => prLt_no h1 h2) hup (looseR_up h)
theorem onT_onL (S : Dk) (keep : List Int) (ls : List Sec) (s : List UInt8) : ∀ i, onT S keep ls i s = onL (S.nowOf s) (S.lastsOf s) keep (ls.map pr) s i
  | 0 => rfl
  | i + 1 => by
    have ih := onT_onL S keep ls s i
    show (match ls[i]? with | some x => onS S keep i x (onT S keep ls i) | none => onT S keep ls i) s = (match (ls.map pr)[i]? with | some x => if keep.contains (i : Int) = true ∧ s = x.1 then onB (S.nowOf s) (onL (S.nowOf s) (S.lastsOf s) keep (ls.map pr) s i) x.2 else onL (S.nowOf s) (S.lastsOf s) keep (ls.map pr) s i | none => onL (S.nowOf s) (S.lastsOf s) keep (ls.map pr) s i)
    rw [List.getElem?_map]
    cases ls[i]? with
    | none => exact ih
    | some x =>
      show onS S keep i x (onT S keep ls i) s = if keep.contains (i : Int) = true ∧ s = x.name then onB (S.nowOf s) (onL (S.nowOf s) (S.lastsOf s) keep (ls.map pr) s i) x.page.toNat else onL (S.nowOf s) (S.lastsOf s) keep (ls.map pr) s i
      unfold onS
      by_cases hk : keep.contains (i : Int) = true
      · rw [if_pos hk]
        show (if s = x.name then onB (S.nowOf x.name) (onT S keep ls i x.name) x.page.toNat else onT S keep ls i s) = _
        by_cases e : s = x.name
        · subst e
          rw [if_pos rfl, if_pos ⟨hk, rfl⟩, ih]
        · rw [if_neg e, if_neg fun h => e h.2, ih]
      · rw [if_neg hk, if_neg fun h => hk h.1, ih]
theorem sim_on (h : Sim S R) (keep : List Int) {ls : List Sec} (hl : LsIs S ls) (hok : ∀ s k, S.loose s k = true → okK s k) : Sim (S.lit (onT S keep ls ls.length)) (R.on keep) := by
  have hls := ls_eq h hl hok
  have hlen : (looseR R.L).length = ls.length := by rw [← hls, List.length_map]
  refine ⟨h.q, rfl, rfl, ?_, ?_, ?_, fun s k hl => by cases hl⟩
  · show (R.L.map (litR keep R.L)).Pairwise _
    rw [List.pairwise_map]
    exact h.up
  · show ((R.L.map (litR keep R.L)).map Rf.fi).Perm (S.fs.map fun f => ⟨f.name, onT S keep ls ls.length f.name, onT S keep ls ls.length f.name⟩)
    have e : (R.L.map (litR keep R.L)).map Rf.fi = (R.L.map Rf.fi).map fun f => (⟨f.name, onT S keep ls ls.length f.name, onT S keep ls ls.length f.name⟩ : Fi) := by
      rw [List.map_map, List.map_map]
      refine List.map_congr_left fun f hf => ?_
      have hfd : S.find f.n = some f.fi := by
        rw [h.find f.n]
        have : R.find f.n = some f := by
          unfold RD.find
          have hmem : ∃ g, R.L.find? (fun x => x.n == f.n) = some g := by
            rw [← Option.isSome_iff_exists, List.find?_isSome]
            exact ⟨f, hf, by simp⟩
          obtain ⟨g, hg⟩ := hmem
          have hg1 := List.mem_of_find?_eq_some hg
          have hg2 : g.n = f.n := by simpa using List.find?_some hg
          rw [hg]
          congr 1
          by_cases e : g = f
          · exact e
          · exfalso
            obtain ⟨i, hi, ei⟩ := List.mem_iff_getElem.1 hg1
            obtain ⟨j, hj, ej⟩ := List.mem_iff_getElem.1 hf
            have hpi := List.pairwise_iff_getElem.1 h.up
            rcases Nat.lt_trichotomy i j with hij | hij | hij
            · have := hpi i j hi hj hij
              rw [ei, ej, hg2, bl_irrefl] at this; cases this
            · subst hij; exact e (ei.symm.trans ej)
            · have := hpi j i hj hi hij
              rw [ei, ej, hg2, bl_irrefl] at this; cases this
        rw [this]; rfl
      have e1 : onT S keep ls ls.length f.n = onL f.now f.lasts keep (looseR R.L) f.n (looseR R.L).length := by
        rw [onT_onL, hls, hlen, nowOf_some hfd, lastsOf_some hfd]; rfl
      show (⟨f.n, onL f.now f.lasts keep (looseR R.L) f.n (looseR R.L).length, onL f.now f.lasts keep (looseR R.L) f.n (looseR R.L).length⟩ : Fi) = ⟨f.n, onT S keep ls ls.length f.n, onT S keep ls ls.length f.n⟩
      rw [e1]
    rw [e]
    exact h.fs.map _
  · intro f hf k
    obtain ⟨g, -, rfl⟩ := List.mem_map.1 hf
    rfl
theorem sim_new (q : Nat) : Sim (newD q) ⟨[], q, 0, false⟩ := ⟨rfl, rfl, rfl, List.Pairwise.nil, List.Perm.refl _, fun f hf => by (cases hf), fun s k hl => by (simp [newD] at hl)⟩
end
end Go.Proofs.YtipankjajdpiiaaGreat
