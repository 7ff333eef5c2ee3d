/-
  Hub: edges in memory; the best candidates of a vertex, plainly.
-/
import Derived.Test.YtfgkmimhibpceaaHput
namespace Go.Proofs.Ytfgkmimhibpceaa
open Go.RowKit
set_option maxRecDepth 100000
set_option maxHeartbeats 400000

structure Ed where
  t : UInt32
  h : UInt32
  w : UInt64
  m : UInt32
def Ed.enc (e : Ed) : List Value := [.int .u32 e.t.toNat, .int .u32 e.h.toNat, .int .u64 e.w.toNat, .int .u32 e.m.toNat]
def Ed.v (e : Ed) : Value := .agg #[.int .u32 e.t.toNat, .int .u32 e.h.toNat, .int .u64 e.w.toNat, .int .u32 e.m.toNat]
abbrev RdE := RdG Ed.enc 4
abbrev OwnE := OwnG Ed.enc 4
theorem ed4 (x : Ed) : x.enc.length = 4 := rfl
theorem Try.infoE : (Try.prog.info? 49).map (fun i => (i.zero, i.size, i.bytes)) = some (some (.agg #[.int .u32 0, .int .u32 0, .int .u64 0, .int .u32 0]), 4, 24) := by kernel_rfl
theorem ed_one (l : List Ed) : ∀ u ∈ l.flatMap Ed.enc, u.oneCell' = true := by
  intro u hu
  obtain ⟨r, _, h⟩ := List.mem_flatMap.1 hu
  simp [Ed.enc] at h
  rcases h with rfl | rfl | rfl | rfl <;> rfl
theorem at4E {w wx : World} {g off : Nat} {l : List Ed} (hc : ∀ k (hk : k < l.length), ∀ j, j < 4 → w.cell? ⟨g, off + k * 4 + j, none⟩ = (l[k].enc)[j]?) (hg : w.grownBy wx none) {k : Nat} (hk : k < l.length) {a b d : UInt32} {c : UInt64} (e : l[k] = ⟨a, b, c, d⟩) :
    wx.cell? ⟨g, off + k * 4, none⟩ = some (.int .u32 a.toNat) ∧ wx.cell? ⟨g, off + k * 4 + 1, none⟩ = some (.int .u32 b.toNat) ∧ wx.cell? ⟨g, off + k * 4 + 2, none⟩ = some (.int .u64 c.toNat) ∧ wx.cell? ⟨g, off + k * 4 + 3, none⟩ = some (.int .u32 d.toNat) := by
  have h0 := hc k hk 0 (by omega)
  have h1 := hc k hk 1 (by omega)
  have h2 := hc k hk 2 (by omega)
  have h3 := hc k hk 3 (by omega)
  rw [e] at h0 h1 h2 h3
  exact ⟨hg.cell h0 (by simp), hg.cell h1 (by simp), hg.cell h2 (by simp), hg.cell h3 (by simp)⟩
/-! the best candidates -/
def candB (e : Ed) (best : UInt32 → Option Lb) (x : Lb) : UInt32 → Option Lb :=
  if e.w.toNat + x.dist.toNat < 9223372036854775808 then putB best ⟨x.hub, e.h, UInt64.ofNat (e.w.toNat + x.dist.toNat)⟩ else best
def edgeB (of : UInt32 → List Lb) (best : UInt32 → Option Lb) (e : Ed) : UInt32 → Option Lb := (of e.h).foldl (candB e) best
def firstB (v : UInt32) : UInt32 → Option Lb := putB (fun _ => none) ⟨v, v, 0⟩
def addB (v : UInt32) (up : List Ed) (of : UInt32 → List Lb) : UInt32 → Option Lb := up.foldl (edgeB of) (firstB v)
/-- each candidate stands at its own hub. -/
def AtHub (best : UInt32 → Option Lb) : Prop := ∀ h x, best h = some x → x.hub = h
theorem AtHub.none_ : AtHub fun _ => none := fun _ _ h => by cases h
theorem AtHub.put {best : UInt32 → Option Lb} (h : AtHub best) (x : Lb) : AtHub (putB best x) := by
  intro k y hy
  unfold putB at hy
  by_cases e : k = x.hub
  · subst e
    rw [if_pos rfl] at hy
    cases hb : best x.hub with
    | none => rw [hb] at hy; cases hy; rfl
    | some old =>
      rw [hb] at hy
      simp only [Option.some.injEq] at hy
      by_cases ha : ahd x old < 0
      · rw [if_pos ha] at hy; subst hy; rfl
      · rw [if_neg ha] at hy; subst hy; exact h _ _ hb
  · rw [if_neg e] at hy; exact h _ _ hy
theorem AtHub.cand {best : UInt32 → Option Lb} (h : AtHub best) (e : Ed) (x : Lb) : AtHub (candB e best x) := by
  unfold candB
  by_cases hs : e.w.toNat + x.dist.toNat < 9223372036854775808
  · rw [if_pos hs]; exact h.put _
  · rw [if_neg hs]; exact h
theorem AtHub.fold {best : UInt32 → Option Lb} (h : AtHub best) (e : Ed) (l : List Lb) : AtHub (l.foldl (candB e) best) := by
  induction l generalizing best with
  | nil => exact h
  | cons x r ih => exact ih (h.cand e x)
theorem AtHub.edges {best : UInt32 → Option Lb} (h : AtHub best) (of : UInt32 → List Lb) (l : List Ed) : AtHub (l.foldl (edgeB of) best) := by
  induction l generalizing best with
  | nil => exact h
  | cons x r ih => exact ih (h.fold x _)
theorem AtHub.first (v : UInt32) : AtHub (firstB v) := AtHub.none_.put _
theorem AtHub.add (v : UInt32) (up : List Ed) (of : UInt32 → List Lb) : AtHub (addB v up of) := (AtHub.first v).edges of up
/-- a list that tells the best candidates, rising by hub. -/
def BestL (best : UInt32 → Option Lb) (l : List Lb) : Prop := Ris l ∧ ∀ x, x ∈ l ↔ best x.hub = some x
theorem Ris.lt {l : List Lb} (h : Ris l) : ∀ i j (hi : i < l.length) (hj : j < l.length), i < j → l[i].hub.toNat < l[j].hub.toNat := by
  intro i j
  induction j with
  | zero => intro _ _ h; omega
  | succ j ih =>
    intro hi hj hij
    by_cases e : i = j
    · subst e; exact h i hj
    · have h1 := ih hi (by omega) (by omega)
      have h2 := h j hj
      omega
theorem Ris.tail {x : Lb} {r : List Lb} (h : Ris (x :: r)) : Ris r := fun i hi => h (i + 1) (by simpa using hi)
theorem Ris.head {x : Lb} {r : List Lb} (h : Ris (x :: r)) : ∀ y ∈ r, x.hub.toNat < y.hub.toNat := by
  intro y hy
  obtain ⟨i, hi, rfl⟩ := List.mem_iff_getElem.1 hy
  exact h.lt 0 (i + 1) (by simp) (by simpa using hi) (by omega)
/-- what rises is told by its members. -/
theorem Ris.same : ∀ {l m : List Lb}, Ris l → Ris m → (∀ x, x ∈ l ↔ x ∈ m) → l = m
  | [], [], _, _, _ => rfl
  | [], y :: s, _, _, h => by have := (h y).2 (by simp); cases this
  | x :: r, [], _, _, h => by have := (h x).1 (by simp); cases this
  | x :: r, y :: s, hl, hm, h => by
    have hxy : x = y := by
      rcases List.mem_cons.1 ((h x).1 (by simp)) with e | h1
      · exact e
      · rcases List.mem_cons.1 ((h y).2 (by simp)) with e | h2
        · exact e.symm
        · have := hm.head x h1
          have := hl.head y h2
          omega
    subst hxy
    congr 1
    refine Ris.same hl.tail hm.tail fun z => ⟨fun hz => ?_, fun hz => ?_⟩
    · rcases List.mem_cons.1 ((h z).1 (by simp [hz])) with e | h1
      · subst e; have := hl.head z hz; omega
      · exact h1
    · rcases List.mem_cons.1 ((h z).2 (by simp [hz])) with e | h1
      · subst e; have := hm.head z hz; omega
      · exact h1
theorem BestL.same {best : UInt32 → Option Lb} {l m : List Lb} (hl : BestL best l) (hm : BestL best m) : l = m :=
  hl.1.same hm.1 fun x => (hl.2 x).trans (hm.2 x).symm
end Go.Proofs.Ytfgkmimhibpceaa
