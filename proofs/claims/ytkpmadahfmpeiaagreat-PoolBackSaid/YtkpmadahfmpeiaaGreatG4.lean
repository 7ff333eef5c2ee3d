/-
  A pool over a disk with room holds files of pages: plain. Frames written back; a frame taken.
-/
import Derived.Test.YtkpmadahfmpeiaaGreatG3
namespace Go.Proofs.YtkpmadahfmpeiaaGreat
set_option maxRecDepth 100000

section
variable {q N : Nat} {fr : List Fr} {S : Dk} {G : List Ge}
theorem kOf_some {i : Nat} {f : Fr} (h : fr[i]? = some f) : kOf fr i = f.k := by unfold kOf; rw [h]
theorem kOf_clean {i : Nat} {f : Fr} (h : fr[i]? = some f) (j : Nat) : kOf (fr.set i f.clean) j = kOf fr j := by
  unfold kOf
  by_cases e : i = j
  · subst e
    rw [List.getElem?_set_self (List.getElem?_eq_some_iff.1 h).1, h]; rfl
  · rw [List.getElem?_set_ne e]
theorem mem_dirtyL {n : List UInt8} {a b : Int} {i : Nat} : i ∈ dirtyL fr n a b ↔ ∃ f, fr[i]? = some f ∧ dirtyF n a b f = true := by
  unfold dirtyL
  rw [List.mem_mergeSort]
  unfold dirtyIx
  rw [List.mem_filter, List.mem_range]
  constructor
  · rintro ⟨h1, h2⟩
    have : fr[i]? = some fr[i] := List.getElem?_eq_getElem h1
    rw [this] at h2
    exact ⟨_, this, h2⟩
  · rintro ⟨f, h1, h2⟩
    exact ⟨(List.getElem?_eq_some_iff.1 h1).1, by rw [h1]; exact h2⟩
theorem dirtyF_iff {n : List UInt8} {a b : Int} {f : Fr} : dirtyF n a b f = true ↔ f.full = true ∧ f.dirty = true ∧ f.n = n ∧ a ≤ f.k ∧ f.k < b := by
  unfold dirtyF; simp
theorem AbG.rising (h : AbG q N fr S G) (n : List UInt8) (a b : Int) : (dirtyL fr n a b).Pairwise fun i j => kOf fr i < kOf fr j := by
  have h1 : (dirtyL fr n a b).Pairwise fun i j => decide (kOf fr i ≤ kOf fr j) = true := List.pairwise_mergeSort (fun x y z h1 h2 => by simp at h1 h2 ⊢; omega) (fun x y => by simp; omega) _
  have h2 : (dirtyL fr n a b).Nodup := (List.mergeSort_perm _ _).nodup_iff.2 (List.nodup_range.filter _)
  refine (h1.and h2).imp_of_mem fun {i j} hi hj hij => ?_
  obtain ⟨f, f1, f2⟩ := mem_dirtyL.1 hi
  obtain ⟨g, g1, g2⟩ := mem_dirtyL.1 hj
  obtain ⟨f3, -, f4, -⟩ := dirtyF_iff.1 f2
  obtain ⟨g3, -, g4, -⟩ := dirtyF_iff.1 g2
  have h3 : kOf fr i ≤ kOf fr j := by simpa using hij.1
  have h4 : kOf fr i ≠ kOf fr j := fun e => hij.2 (h.uniq i j f g f1 g1 f3 g3 (f4.trans g4.symm) (by rw [kOf_some f1, kOf_some g1] at e; exact e))
  omega
theorem mem_fz {G' : List Ge} (e : G'.map Ge.fz = G.map Ge.fz) {x : Ge} (hx : x ∈ G) : ∃ y ∈ G', y.fi.name = x.fi.name ∧ y.pages = x.pages := by
  have : x.fz ∈ G'.map Ge.fz := by rw [e]; exact List.mem_map.2 ⟨x, hx, rfl⟩
  obtain ⟨y, hy, h1⟩ := List.mem_map.1 this
  simp only [Ge.fz, Fz.mk.injEq] at h1
  exact ⟨y, hy, h1⟩
/-- nothing is done to other files. -/
def KeepsD (n : List UInt8) (S S' : Dk) : Prop := ∀ s, s ≠ n → S'.find s = S.find s ∧ ∀ k, S'.loose s k = S.loose s k
theorem KeepsD.refl (n : List UInt8) (S : Dk) : KeepsD n S S := fun _ _ => ⟨rfl, fun _ => rfl⟩
theorem KeepsD.trans {n : List UInt8} {S S1 S2 : Dk} (h : KeepsD n S S1) (k : KeepsD n S1 S2) : KeepsD n S S2 := fun s hs => ⟨(k s hs).1.trans (h s hs).1, fun j => ((k s hs).2 j).trans ((h s hs).2 j)⟩
theorem keeps_wrote (S : Dk) (n : List UInt8) (p : Nat) (b : List UInt8) : KeepsD n S (S.wrote n p b) := fun s hs => by
  refine ⟨?_, fun k => ?_⟩
  · rw [find_wrote]
    cases h : S.find s with
    | none => rfl
    | some f =>
      show some (if f.name = n then _ else f) = some f
      rw [if_neg (by rw [(find_some h).2]; exact hs)]
  · show ((s == n && hits p b.length k) || S.loose s k) = S.loose s k
    rw [show (s == n) = false from by simpa using hs]; rfl
theorem AbG.keeps1 (h : AbG q N fr S G) {i : Nat} {f : Fr} (hf : fr[i]? = some f) (h1 : f.full = true) {x : Ge} (hx : x ∈ G) (hn : x.fi.name = f.n) (hk : f.k ≤ x.m) : KeepsD f.n S (S.pwrite f.n f.k f.b).1 := by
  obtain ⟨x', hx', e1, hk0, hb⟩ := h.held i f hf h1
  obtain rfl := ge_uniq h.nodup hx hx' (hn.trans e1.symm)
  obtain ⟨k, hkk⟩ : ∃ k : Nat, f.k = (k : Int) := ⟨f.k.toNat, by omega⟩
  have ho := h.ok x hx
  have hbl := ho.small _ (List.mem_of_getElem? hb)
  have hw := h.pwrite hx (k := k) (by omega) hbl
  rw [hkk, ← hn, hw]
  exact keeps_wrote _ _ _ _
/-- frames of a file are written back, rising. -/
theorem putL_ok {n : List UInt8} : ∀ (l : List Nat) (fr : List Fr) (S : Dk) (G : List Ge), AbG q N fr S G → ∀ x ∈ G, x.fi.name = n → (∀ i ∈ l, ∃ f, fr[i]? = some f ∧ f.full = true ∧ f.n = n) →
    l.Pairwise (fun i j => kOf fr i < kOf fr j) → (∀ i ∈ l, ∀ j : Nat, x.m ≤ j → (j : Int) < kOf fr i → ∃ i2 ∈ l, kOf fr i2 = (j : Int)) →
    ∃ G', (putL n l fr S).e = 0 ∧ AbG q N (putL n l fr S).fr (putL n l fr S).S G' ∧ G'.map Ge.fz = G.map Ge.fz ∧ (∀ i : Nat, (putL n l fr S).fr[i]? = (fr[i]?).map fun f => if i ∈ l then f.clean else f) ∧ KeepsD n S (putL n l fr S).S
  | [], fr, S, G, h, x, hx, hn, hl, hs, hc => by
    refine ⟨G, rfl, h, rfl, fun i => ?_, KeepsD.refl _ _⟩
    show fr[i]? = _
    cases fr[i]? <;> simp
  | i :: l, fr, S, G, h, x, hx, hn, hl, hs, hc => by
    obtain ⟨f, hf, h1, h2⟩ := hl i (by simp)
    rw [List.pairwise_cons] at hs
    have hk : f.k ≤ x.m := by
      rcases Int.lt_or_le (x.m : Int) f.k with hlt | hle
      · obtain ⟨i2, k1, k2⟩ := hc i (by simp) x.m (Nat.le_refl _) (by rw [kOf_some hf]; exact hlt)
        rcases List.mem_cons.1 k1 with e | k1
        · rw [e, kOf_some hf] at k2; omega
        · have := hs.1 i2 k1
          rw [kOf_some hf] at this; omega
      · exact hle
    obtain ⟨e0, h'⟩ := h.back1 hf h1 hx (hn.trans h2.symm) hk
    have hkp := h.keeps1 hf h1 hx (hn.trans h2.symm) hk
    rw [h2] at e0 h' hkp
    have hx' : x.up n (fun c => overZ c (f.k.toNat * 256) (pagB (crcS n) f.k.toNat f.b)) (fun m => max m (f.k.toNat + 1)) ∈ G.map fun y => y.up n (fun c => overZ c (f.k.toNat * 256) (pagB (crcS n) f.k.toNat f.b)) fun m => max m (f.k.toNat + 1) := List.mem_map.2 ⟨x, hx, rfl⟩
    have hxm : (x.up n (fun c => overZ c (f.k.toNat * 256) (pagB (crcS n) f.k.toNat f.b)) (fun m => max m (f.k.toNat + 1))).m = max x.m (f.k.toNat + 1) := by unfold Ge.up; rw [if_pos hn]
    obtain ⟨x0, hx0, -, hk0, -⟩ := h.held i f hf h1
    have hnot : i ∉ l := fun hm => by have := hs.1 i hm; omega
    have hset : ∀ j, j ≠ i → (fr.set i f.clean)[j]? = fr[j]? := fun j hj => List.getElem?_set_ne (fun e => hj e.symm)
    obtain ⟨G', r1, r2, r3, r4, r5⟩ := putL_ok (n := n) l (fr.set i f.clean) (S.pwrite n f.k f.b).1 _ h' _ hx' (by rw [up_name]; exact hn)
      (fun j hj => by
        obtain ⟨g, g1, g2⟩ := hl j (by simp [hj])
        exact ⟨g, by rw [hset j (fun e => hnot (e ▸ hj))]; exact g1, g2⟩)
      (hs.2.imp fun {a b} hab => by rw [kOf_clean hf, kOf_clean hf]; exact hab)
      (fun a ha j hj1 hj2 => by
        rw [kOf_clean hf] at hj2
        rw [hxm] at hj1
        obtain ⟨i2, k1, k2⟩ := hc a (by simp [ha]) j (by omega) hj2
        rcases List.mem_cons.1 k1 with e | k1
        · rw [e, kOf_some hf] at k2; omega
        · exact ⟨i2, k1, by rw [kOf_clean hf]; exact k2⟩)
    have ep : putL n (i :: l) fr S = putL n l (fr.set i f.clean) (S.pwrite n f.k f.b).1 := by
      show (match fr[i]? with | none => _ | some f => _) = _
      rw [hf]
      show (if (S.pwrite n f.k f.b).2 ≠ 0 then _ else _) = _
      rw [if_neg (by rw [e0]; simp)]
    rw [ep]
    refine ⟨G', r1, r2, r3.trans (up_fz _ _ _), fun j => ?_, hkp.trans r5⟩
    rw [r4]
    by_cases e : j = i
    · subst e
      rw [List.getElem?_set_self (List.getElem?_eq_some_iff.1 hf).1, hf]
      simp [hnot]
    · rw [hset j e]
      cases fr[j]? with
      | none => rfl
      | some g => simp [e]
/-- a dirty frame is written back. -/
theorem AbG.back (h : AbG q N fr S G) {i : Nat} {f : Fr} (hf : fr[i]? = some f) (h1 : f.full = true) : ∃ G', (backP fr S i).e = 0 ∧ AbG q N (backP fr S i).fr (backP fr S i).S G' ∧ G'.map Ge.fz = G.map Ge.fz ∧
    ∃ l : List Nat, i ∈ l ∧ ∀ j : Nat, (backP fr S i).fr[j]? = (fr[j]?).map fun f => if j ∈ l then f.clean else f := by
  obtain ⟨x, hx, hn, hk0, hb⟩ := h.held i f hf h1
  have hkl : f.k.toNat < x.pages.length := (List.getElem?_eq_some_iff.1 hb).1
  have ep : backP fr S i = putL f.n (dirtyL fr f.n x.m f.k ++ [i]) fr S := by
    unfold backP
    rw [hf]
    show (if (S.pgs f.n).2 ≠ 0 then _ else _) = _
    have := h.pgs hx
    rw [hn] at this
    rw [this, if_neg (by simp)]
  rw [ep]
  obtain ⟨G', r1, r2, r3, r4, -⟩ := putL_ok (n := f.n) (dirtyL fr f.n x.m f.k ++ [i]) fr S G h x hx hn
    (fun j hj => by
      rcases List.mem_append.1 hj with hj | hj
      · obtain ⟨g, g1, g2⟩ := mem_dirtyL.1 hj
        obtain ⟨g3, -, g4, -⟩ := dirtyF_iff.1 g2
        exact ⟨g, g1, g3, g4⟩
      · have : j = i := by simpa using hj
        subst this
        exact ⟨f, hf, h1, rfl⟩)
    (by
      rw [List.pairwise_append]
      refine ⟨h.rising _ _ _, by simp, fun a ha b hb => ?_⟩
      have : b = i := by simpa using hb
      subst this
      obtain ⟨g, g1, g2⟩ := mem_dirtyL.1 ha
      obtain ⟨-, -, -, -, g5⟩ := dirtyF_iff.1 g2
      rw [kOf_some g1, kOf_some hf]; exact g5)
    (fun a ha j hj1 hj2 => by
      have hjk : (j : Int) < f.k := by
        rcases List.mem_append.1 ha with ha | ha
        · obtain ⟨g, g1, g2⟩ := mem_dirtyL.1 ha
          obtain ⟨-, -, -, -, g5⟩ := dirtyF_iff.1 g2
          rw [kOf_some g1] at hj2; omega
        · have : a = i := by simpa using ha
          subst this
          rw [kOf_some hf] at hj2; exact hj2
      obtain ⟨i2, g, g1, g2, g3, g4, g5⟩ := (h.ok x hx).new j hj1 (by omega)
      exact ⟨i2, List.mem_append.2 (.inl (mem_dirtyL.2 ⟨g, g1, dirtyF_iff.2 ⟨g2, g3, g4.trans hn, by omega, by omega⟩⟩)), by rw [kOf_some g1]; exact g5⟩)
  exact ⟨G', r1, r2, r3, _, by simp, r4⟩
/-- all dirty frames of a file are written back. -/
theorem AbG.putAll (h : AbG q N fr S G) {x : Ge} (hx : x ∈ G) : ∃ G', (putL x.fi.name (dirtyL fr x.fi.name 0 16777216) fr S).e = 0 ∧ AbG q N (putL x.fi.name (dirtyL fr x.fi.name 0 16777216) fr S).fr (putL x.fi.name (dirtyL fr x.fi.name 0 16777216) fr S).S G' ∧ G'.map Ge.fz = G.map Ge.fz ∧
    (∀ j : Nat, (putL x.fi.name (dirtyL fr x.fi.name 0 16777216) fr S).fr[j]? = (fr[j]?).map fun f => if f.full = true ∧ f.n = x.fi.name then f.clean else f) ∧ KeepsD x.fi.name S (putL x.fi.name (dirtyL fr x.fi.name 0 16777216) fr S).S := by
  obtain ⟨G', r1, r2, r3, r4, r5⟩ := putL_ok (n := x.fi.name) (dirtyL fr x.fi.name 0 16777216) fr S G h x hx rfl
    (fun j hj => by
      obtain ⟨g, g1, g2⟩ := mem_dirtyL.1 hj
      obtain ⟨g3, -, g4, -⟩ := dirtyF_iff.1 g2
      exact ⟨g, g1, g3, g4⟩)
    (h.rising _ _ _)
    (fun a ha j hj1 hj2 => by
      obtain ⟨g, g1, g2⟩ := mem_dirtyL.1 ha
      obtain ⟨g3, -, g4, -, g5⟩ := dirtyF_iff.1 g2
      obtain ⟨y, hy, q1, q2, q3⟩ := h.held a g g1 g3
      obtain rfl := ge_uniq h.nodup hy hx (q1.trans g4)
      have := (List.getElem?_eq_some_iff.1 q3).1
      rw [kOf_some g1] at hj2
      obtain ⟨i2, g', k1, k2, k3, k4, k5⟩ := (h.ok y hx).new j hj1 (by omega)
      exact ⟨i2, mem_dirtyL.2 ⟨g', k1, dirtyF_iff.2 ⟨k2, k3, k4, by omega, by omega⟩⟩, by rw [kOf_some k1]; exact k5⟩)
  refine ⟨G', r1, r2, r3, fun j => ?_, r5⟩
  rw [r4]
  cases hj : fr[j]? with
  | none => rfl
  | some f =>
    show some (if j ∈ dirtyL fr x.fi.name 0 16777216 then f.clean else f) = some (if f.full = true ∧ f.n = x.fi.name then f.clean else f)
    congr 1
    by_cases hc : f.full = true ∧ f.n = x.fi.name
    · rw [if_pos hc]
      by_cases hm : j ∈ dirtyL fr x.fi.name 0 16777216
      · rw [if_pos hm]
      · rw [if_neg hm]
        cases hd : f.dirty with
        | false => unfold Fr.clean; rw [← hd]
        | true =>
          obtain ⟨y, hy, q1, q2, q3⟩ := h.held j f hj hc.1
          have := (List.getElem?_eq_some_iff.1 q3).1
          have := h.pages_le hy
          have := h.total.2
          exact absurd (mem_dirtyL.2 ⟨f, hj, dirtyF_iff.2 ⟨hc.1, hd, hc.2, q2, by omega⟩⟩) hm
    · rw [if_neg hc, if_neg fun hm => by
        obtain ⟨g, g1, g2⟩ := mem_dirtyL.1 hm
        rw [hj] at g1; cases g1
        obtain ⟨g3, -, g4, -⟩ := dirtyF_iff.1 g2
        exact hc ⟨g3, g4⟩]

/-! the hand -/
def sig (f : Fr) : Bool × List UInt8 × Int × List UInt8 × Nat × Value := (f.full, f.n, f.k, f.b, f.pins, f.bv)
def dist (i j L : Nat) : Nat := if i ≤ j then j - i else j + L - i
def stepI (i L : Nat) : Nat := if i + 1 = L then 0 else i + 1
theorem stepI_mod {i L : Nat} (h : i < L) : (i + 1) % L = stepI i L := by
  unfold stepI
  split
  · next e => rw [e, Nat.mod_self]
  · exact Nat.mod_eq_of_lt (by omega)
theorem dist_step {i j L : Nat} (hi : i < L) (hj : j < L) (hne : i ≠ j) : dist (stepI i L) j L + 1 = dist i j L := by
  unfold dist stepI
  split <;> split <;> split <;> omega
theorem dist_lt {i j L : Nat} (hi : i < L) (hj : j < L) : dist i j L < L := by
  unfold dist; split <;> omega
theorem set_core {i : Nat} {f f' : Fr} (hf : fr[i]? = some f) (e : core f' = core f) : (fr.set i f').map core = fr.map core := by
  rw [List.map_set, e]
  apply List.ext_getElem?
  intro j
  by_cases h : i = j
  · subst h
    rw [List.getElem?_set_self (by simpa using (List.getElem?_eq_some_iff.1 hf).1), List.getElem?_map, hf]; rfl
  · rw [List.getElem?_set_ne h]
theorem set_sig {i : Nat} {f f' : Fr} (hf : fr[i]? = some f) (e : sig f' = sig f) : (fr.set i f').map sig = fr.map sig := by
  rw [List.map_set, e]
  apply List.ext_getElem?
  intro j
  by_cases h : i = j
  · subst h
    rw [List.getElem?_set_self (by simpa using (List.getElem?_eq_some_iff.1 hf).1), List.getElem?_map, hf]; rfl
  · rw [List.getElem?_set_ne h]
theorem clock_succ {t : Nat} {i : Nat} {f : Fr} (hf : fr[i]? = some f) : clock (t + 1) fr i = if 0 < f.pins then clock t fr ((i + 1) % fr.length) else if f.used = true then clock t (fr.set i f.rest) ((i + 1) % fr.length) else (fr, i) := by
  show (match fr[i]? with | none => _ | some f => _) = _
  rw [hf]
theorem clock_ok {j : Nat} : ∀ (t : Nat) (fr : List Fr) (i : Nat) (g : Fr), i < fr.length → fr[j]? = some g → g.pins = 0 → dist i j fr.length + (if g.used = true then fr.length else 0) < t →
    ∃ f, (clock t fr i).1[(clock t fr i).2]? = some f ∧ f.pins = 0 ∧ f.used = false ∧ (clock t fr i).1.map core = fr.map core ∧ (clock t fr i).1.map sig = fr.map sig
  | 0, fr, i, g, hi, hg, h0, hd => by omega
  | t + 1, fr, i, g, hi, hg, h0, hd => by
    have hj : j < fr.length := (List.getElem?_eq_some_iff.1 hg).1
    have hf : fr[i]? = some fr[i] := List.getElem?_eq_getElem hi
    obtain ⟨f, hfe⟩ : ∃ f, f = fr[i] := ⟨_, rfl⟩
    rw [← hfe] at hf
    have hst : stepI i fr.length < fr.length := by unfold stepI; split <;> omega
    rw [clock_succ hf, stepI_mod hi]
    by_cases hp : 0 < f.pins
    · rw [if_pos hp]
      have hij : i ≠ j := fun e => by subst e; rw [hf] at hg; cases hg; omega
      have := dist_step hi hj hij
      exact clock_ok t fr _ g hst hg h0 (by omega)
    · rw [if_neg hp]
      by_cases hu : f.used = true
      · rw [if_pos hu]
        by_cases hij : i = j
        · subst hij
          obtain rfl : g = f := by rw [hf] at hg; exact (Option.some.inj hg).symm
          rw [if_pos hu] at hd
          have e1 : (fr.set i g.rest)[i]? = some g.rest := List.getElem?_set_self hi
          have hdl : dist (stepI i fr.length) i fr.length + 1 ≤ fr.length := by
            have := dist_lt (L := fr.length) hst hi; omega
          have hdi : dist i i fr.length = 0 := by unfold dist; rw [if_pos (Nat.le_refl _)]; omega
          obtain ⟨f', r1, r2, r3, r4, r5⟩ := clock_ok t (fr.set i g.rest) (stepI i fr.length) g.rest (by rw [List.length_set]; exact hst) e1 h0 (by
            rw [List.length_set]
            show _ + (if false = true then _ else 0) < t
            simp
            omega)
          exact ⟨f', r1, r2, r3, r4.trans (set_core hf rfl), r5.trans (set_sig hf rfl)⟩
        · have := dist_step hi hj hij
          obtain ⟨f', r1, r2, r3, r4, r5⟩ := clock_ok t (fr.set i f.rest) (stepI i fr.length) g (by rw [List.length_set]; exact hst) (by rw [List.getElem?_set_ne hij]; exact hg) h0 (by rw [List.length_set]; omega)
          exact ⟨f', r1, r2, r3, r4.trans (set_core hf rfl), r5.trans (set_sig hf rfl)⟩
      · rw [if_neg hu]
        exact ⟨f, hf, by omega, by simpa using hu, rfl, rfl⟩
/-- all are pinned: nothing is done. -/
theorem clock_pins : ∀ (t : Nat) (fr : List Fr) (i : Nat), i < fr.length → (∀ (j : Nat) (g : Fr), fr[j]? = some g → 0 < g.pins) → ∃ f, (clock t fr i).1 = fr ∧ fr[(clock t fr i).2]? = some f ∧ 0 < f.pins
  | 0, fr, i, hi, hp => ⟨fr[i], rfl, List.getElem?_eq_getElem hi, hp i _ (List.getElem?_eq_getElem hi)⟩
  | t + 1, fr, i, hi, hp => by
    have hf : fr[i]? = some fr[i] := List.getElem?_eq_getElem hi
    have hf0 := hp i _ hf
    rw [clock_succ hf, if_pos hf0]
    exact clock_pins t fr _ (Nat.mod_lt _ (by omega)) hp
theorem free_some {Q : Pm} {i : Nat} (h : Q.free = some i) : ∃ f, Q.fr[i]? = some f ∧ f.full = false ∧ ∀ (j : Nat) (g : Fr), j < i → Q.fr[j]? = some g → g.full = true := by
  unfold Pm.free at h
  obtain ⟨hi, h1, h2⟩ := List.findIdx?_eq_some_iff_getElem.1 h
  refine ⟨Q.fr[i], List.getElem?_eq_getElem hi, by simpa using h1, fun j g hj hg => ?_⟩
  obtain ⟨hj2, e⟩ := List.getElem?_eq_some_iff.1 hg
  have := h2 j hj
  rw [e] at this
  simpa using this
theorem free_none {Q : Pm} (h : Q.free = none) : ∀ (j : Nat) (g : Fr), Q.fr[j]? = some g → g.full = true := by
  unfold Pm.free at h
  rw [List.findIdx?_eq_none_iff] at h
  intro j g hg
  have := h g (List.mem_of_getElem? hg)
  simpa using this
/-- what a frame that is taken leaves. -/
structure Took (Q : Pm) (R : TakeR) (f0 : Fr) : Prop where
  e : R.e = 0
  at_ : R.Q.fr[R.i]? = some f0
  full : f0.full = false
  was : f0 = fr0 ∨ Q.fr[R.i]? = some f0
  len : R.Q.fr.length = Q.fr.length
  others : ∀ j : Nat, j ≠ R.i → (R.Q.fr[j]?).map sig = (Q.fr[j]?).map sig
  free : ∀ f, Q.fr[R.i]? = some f → f.full = false ∨ f.pins = 0
  hand : R.Q.hand < Q.fr.length
  peaks : R.Q.mf = Q.mf ∧ R.Q.mp = Q.mp
theorem AbG.take {Q : Pm} (h : AbG q N Q.fr S G) (hh : Q.hand < Q.fr.length) {j : Nat} {g : Fr} (hg : Q.fr[j]? = some g) (hg0 : g.pins = 0) : ∃ G' f0, Took Q (Q.take S) f0 ∧ AbG q N (Q.take S).Q.fr (Q.take S).S G' ∧ G'.map Ge.fz = G.map Ge.fz := by
  cases hfr : Q.free with
  | some i =>
    have e : Q.take S = ⟨i, 0, Q, S⟩ := by unfold Pm.take; rw [hfr]
    rw [e]
    obtain ⟨f, h1, h2, -⟩ := free_some hfr
    exact ⟨G, f, ⟨rfl, h1, h2, .inr h1, rfl, fun _ _ => rfl, fun f' hf' => .inl (by rw [h1] at hf'; cases hf'; exact h2), hh, rfl, rfl⟩, h, rfl⟩
  | none =>
    obtain ⟨f, r1, r2, r3, r4, r5⟩ := clock_ok (2 * Q.fr.length) Q.fr Q.hand g hh hg hg0 (by
      have := dist_lt (L := Q.fr.length) hh (List.getElem?_eq_some_iff.1 hg).1
      split <;> omega)
    have hlen := clock_len (2 * Q.fr.length) Q.fr Q.hand
    obtain ⟨X, hX⟩ : ∃ X, X = clock (2 * Q.fr.length) Q.fr Q.hand := ⟨_, rfl⟩
    have e : Q.take S = takeC Q S X.1 X.2 := by unfold Pm.take; rw [hfr, ← hX]
    rw [← hX] at r1 r4 r5 hlen
    obtain ⟨f1, i⟩ := X
    have h' := h.core r4
    simp only [] at r1 r4 r5 e h' hlen
    have hil : i < Q.fr.length := by rw [← hlen]; exact (List.getElem?_eq_some_iff.1 r1).1
    have hsig : ∀ q : Nat, (f1[q]?).map sig = (Q.fr[q]?).map sig := fun q => by
      have := congrArg (·[q]?) r5
      simpa only [List.getElem?_map] using this
    have hfull : f.full = true := by
      have := hsig i
      rw [r1] at this
      cases hq : Q.fr[i]? with
      | none => rw [hq] at this; cases this
      | some f2 =>
        rw [hq] at this
        have e2 : sig f = sig f2 := by simpa using this
        have : f.full = f2.full := congrArg Prod.fst e2
        rw [this]; exact free_none hfr i f2 hq
    have hp0 : ∀ f2, Q.fr[i]? = some f2 → f2.pins = 0 := fun f2 hq => by
      have := hsig i
      rw [r1, hq] at this
      have e2 : sig f = sig f2 := by simpa using this
      have : f.pins = f2.pins := congrArg (fun t => t.2.2.2.2.1) e2
      omega
    have hmod : (i + 1) % f1.length < Q.fr.length := by rw [hlen]; exact Nat.mod_lt _ (by omega)
    have ec : takeC Q S f1 i = if f.dirty = true then
        if (backP f1 S i).e ≠ 0 then ⟨0, (backP f1 S i).e, { Q with fr := (backP f1 S i).fr, hand := i }, (backP f1 S i).S⟩
        else ⟨i, 0, { Q with fr := (backP f1 S i).fr.set i fr0, hand := (i + 1) % f1.length }, (backP f1 S i).S⟩
      else ⟨i, 0, { Q with fr := f1.set i fr0, hand := (i + 1) % f1.length }, S⟩ := by
      unfold takeC
      rw [r1]
      show (if 0 < f.pins ∨ f.used = true then _ else _) = _
      rw [if_neg (by rw [r2, r3]; simp)]
    rw [e, ec]
    cases hd : f.dirty with
    | true =>
      obtain ⟨G', b1, b2, b3, l, b4, b5⟩ := h'.back r1 hfull
      rw [if_pos rfl, if_neg (by rw [b1]; simp)]
      have hbi : (backP f1 S i).fr[i]? = some f.clean := by rw [b5, r1]; simp [b4]
      have hbl : (backP f1 S i).fr.length = Q.fr.length := by
        rw [← hlen]
        have : ∀ q : Nat, ((backP f1 S i).fr[q]?).isSome = (f1[q]?).isSome := fun q => by rw [b5]; cases f1[q]? <;> rfl
        have h1 := this ((backP f1 S i).fr.length)
        have h2 := this f1.length
        simp at h1 h2
        omega
      refine ⟨G', fr0, ⟨rfl, List.getElem?_set_self (by rw [hbl]; exact hil), rfl, .inl rfl, by show ((backP f1 S i).fr.set i fr0).length = _; rw [List.length_set, hbl], fun q hq => ?_, fun f2 hf2 => .inr (hp0 f2 hf2), hmod, rfl, rfl⟩, b2.empty hbi rfl, b3⟩
      show (((backP f1 S i).fr.set i fr0)[q]?).map sig = _
      rw [List.getElem?_set_ne (fun e => hq e.symm), b5, ← hsig]
      cases f1[q]? with
      | none => rfl
      | some y =>
        show some (sig (if q ∈ l then y.clean else y)) = some (sig y)
        split <;> rfl
    | false =>
      rw [if_neg (by simp)]
      refine ⟨G, fr0, ⟨rfl, List.getElem?_set_self (by rw [hlen]; exact hil), rfl, .inl rfl, by show (f1.set i fr0).length = _; rw [List.length_set, hlen], fun q hq => ?_, fun f2 hf2 => .inr (hp0 f2 hf2), hmod, rfl, rfl⟩, h'.empty r1 hd, rfl⟩
      show ((f1.set i fr0)[q]?).map sig = _
      rw [List.getElem?_set_ne (fun e => hq e.symm), hsig]
/-- all are pinned. -/
theorem take_pins {Q : Pm} (hh : Q.hand < Q.fr.length) (hf : ∀ (j : Nat) (g : Fr), Q.fr[j]? = some g → g.full = true ∧ 0 < g.pins) : Q.take S = ⟨0, 10, Q, S⟩ := by
  have hfr : Q.free = none := by
    cases e : Q.free with
    | none => rfl
    | some i =>
      obtain ⟨f, h1, h2, -⟩ := free_some e
      rw [(hf i f h1).1] at h2; cases h2
  obtain ⟨f, r1, r2, r3⟩ := clock_pins (2 * Q.fr.length) Q.fr Q.hand hh fun j g hg => (hf j g hg).2
  unfold Pm.take
  rw [hfr]
  show takeC Q S _ _ = _
  rw [r1]
  unfold takeC
  rw [r2]
  show (if 0 < f.pins ∨ f.used = true then _ else _) = _
  rw [if_pos (.inl r3)]
end
end Go.Proofs.YtkpmadahfmpeiaaGreat
