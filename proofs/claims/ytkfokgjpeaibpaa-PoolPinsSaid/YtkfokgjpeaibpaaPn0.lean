/-
  PoolPins, plain: a pool that holds pages of one file, some of them pinned once.
-/
import Derived.Test.YtkfokgjpeaibpaaG5
import Derived.Test.YtkfokgjpeaibpaaG9
namespace Go.Proofs.Ytkfokgjpeaibpaa
set_option maxRecDepth 100000

structure PinS (q N L : Nat) (K : List Nat) (ps : List (List UInt8)) (Q : Pm) (S : Dk) : Prop where
  ab : ∃ G, AbG q N Q.fr S G ∧ G.map Ge.fz = [⟨an, ps⟩]
  len : Q.fr.length = L
  hand : Q.hand < L
  pins : ∀ (i : Nat) (f : Fr), Q.fr[i]? = some f → f.pins = if f.full = true ∧ f.k.toNat ∈ K then 1 else 0
  has : ∀ j ∈ K, ∃ (i : Nat) (f : Fr), Q.fr[i]? = some f ∧ f.full = true ∧ f.k = (j : Int)
  peak : Q.mf ≤ L ∧ Q.mp ≤ L
theorem heldN_all {p : Fr → Bool} {fr : List Fr} (h : ∀ f ∈ fr, p f = true) : heldN p fr = fr.length := by unfold heldN; rw [List.filter_eq_self.2 h]
theorem one_ge {G : List Ge} {ps : List (List UInt8)} (e : G.map Ge.fz = [⟨an, ps⟩]) : ∃ x ∈ G, x.fi.name = an ∧ x.pages = ps ∧ ∀ y ∈ G, y = x := by
  match G, e with
  | [], e => simp at e
  | _ :: _ :: _, e => simp at e
  | [x], e =>
    simp only [List.map_cons, List.map_nil, List.cons.injEq, and_true] at e
    have h1 : x.fi.name = an := congrArg Fz.name e
    have h2 : x.pages = ps := congrArg Fz.pages e
    exact ⟨x, by simp, h1, h2, fun y hy => by simpa using hy⟩
section
variable {q N L : Nat} {K : List Nat} {ps : List (List UInt8)} {Q : Pm} {S : Dk}
theorem PinS.frame (h : PinS q N L K ps Q S) {i : Nat} {f : Fr} (hf : Q.fr[i]? = some f) (h1 : f.full = true) : f.n = an ∧ 0 ≤ f.k ∧ ps[f.k.toNat]? = some f.b := by
  obtain ⟨G, hA, hG⟩ := h.ab
  obtain ⟨x, hx, e1, e2, e3⟩ := one_ge hG
  obtain ⟨y, hy, k1, k2, k3⟩ := hA.held i f hf h1
  obtain rfl := e3 y hy
  rw [e2] at k3
  exact ⟨by rw [← k1, e1], k2, k3⟩
theorem PinS.uniq (h : PinS q N L K ps Q S) {i j : Nat} {f g : Fr} (hf : Q.fr[i]? = some f) (hg : Q.fr[j]? = some g) (h1 : f.full = true) (h2 : g.full = true) (e : f.k.toNat = g.k.toNat) : i = j := by
  obtain ⟨G, hA, hG⟩ := h.ab
  obtain ⟨a1, a2, -⟩ := h.frame hf h1
  obtain ⟨b1, b2, -⟩ := h.frame hg h2
  exact hA.uniq i j f g hf hg h1 h2 (by rw [a1, b1]) (by omega)
/-- where fewer are pinned than there are frames, one is not. -/
theorem PinS.room (h : PinS q N L K ps Q S) (hK : K.length < L) : ∃ (j : Nat) (g : Fr), Q.fr[j]? = some g ∧ g.pins = 0 := by
  by_cases hc : ∃ (j : Nat) (g : Fr), Q.fr[j]? = some g ∧ g.pins = 0
  · exact hc
  · exfalso
    have hall : ∀ (i : Nat) (f : Fr), Q.fr[i]? = some f → f.full = true ∧ f.k.toNat ∈ K := fun i f hf => by
      by_cases h2 : f.full = true ∧ f.k.toNat ∈ K
      · exact h2
      · have := h.pins i f hf
        rw [if_neg h2] at this
        exact absurd ⟨i, f, hf, this⟩ hc
    have hn : (Q.fr.map fun f => f.k.toNat).Nodup := by
      rw [List.nodup_iff_pairwise_ne, List.pairwise_map, List.pairwise_iff_getElem]
      intro i j hi hj hij e
      have hi1 := List.getElem?_eq_getElem hi
      have hj1 := List.getElem?_eq_getElem hj
      have := h.uniq hi1 hj1 (hall _ _ hi1).1 (hall _ _ hj1).1 e
      omega
    have := hn.length_le_of_subset (l₂ := K) fun y hy => by
      obtain ⟨f, hf, rfl⟩ := List.mem_map.1 hy
      obtain ⟨i, hi, e⟩ := List.mem_iff_getElem.1 hf
      exact (hall i f (by rw [List.getElem?_eq_getElem hi, e])).2
    rw [List.length_map, h.len] at this
    omega
/-- where as many are pinned as there are frames, all are. -/
theorem PinS.all (h : PinS q N L K ps Q S) (hn : K.Nodup) (hK : K.length = L) (i : Nat) (f : Fr) (hf : Q.fr[i]? = some f) : f.full = true ∧ f.k.toNat ∈ K := by
  by_cases hc : f.full = true ∧ f.k.toNat ∈ K
  · exact hc
  · exfalso
    have hi := (List.getElem?_eq_some_iff.1 hf).1
    have hx : ∀ j, ∃ i', j ∈ K → i' ≠ i ∧ i' < L ∧ ∃ g, Q.fr[i']? = some g ∧ g.k = (j : Int) := fun j => by
      by_cases hj : j ∈ K
      · obtain ⟨i', g, k1, k2, k3⟩ := h.has j hj
        refine ⟨i', fun _ => ⟨fun e => ?_, by rw [← h.len]; exact (List.getElem?_eq_some_iff.1 k1).1, g, k1, k3⟩⟩
        subst e
        rw [hf] at k1; cases k1
        exact hc ⟨k2, by rw [k3, Int.toNat_natCast]; exact hj⟩
      · exact ⟨0, fun h => absurd h hj⟩
    let u : Nat → Nat := fun j => Classical.choose (hx j)
    have hu : ∀ j, j ∈ K → u j ≠ i ∧ u j < L ∧ ∃ g, Q.fr[u j]? = some g ∧ g.k = (j : Int) := fun j => Classical.choose_spec (hx j)
    have hn2 : (i :: K.map u).Nodup := by
      rw [List.nodup_cons]
      refine ⟨fun hm => ?_, ?_⟩
      · obtain ⟨j, hj, e⟩ := List.mem_map.1 hm
        exact (hu j hj).1 e
      · rw [List.nodup_iff_pairwise_ne] at hn ⊢
        rw [List.pairwise_map]
        refine hn.imp_of_mem fun {a b} ha hb hab e => hab ?_
        obtain ⟨-, -, g, g1, g2⟩ := hu a ha
        obtain ⟨-, -, g', g1', g2'⟩ := hu b hb
        rw [e, g1'] at g1
        cases g1
        omega
    have := hn2.length_le_of_subset (l₂ := List.range L) fun y hy => by
      rw [List.mem_range]
      rcases List.mem_cons.1 hy with rfl | hy
      · rw [← h.len]; exact hi
      · obtain ⟨j, hj, rfl⟩ := List.mem_map.1 hy
        exact (hu j hj).2.1
    rw [List.length_cons, List.length_map, List.length_range] at this
    omega
theorem PinS.pages (h : PinS q N L K ps Q S) : Q.pages S an = ((ps.length : Int), 0) := by
  obtain ⟨G, hA, hG⟩ := h.ab
  have := hA.pages an
  rw [hG, aErr_one an_right, aPg_one] at this
  exact this
theorem PinS.bring_at (h : PinS q N L K ps Q S) {k : Nat} (hk : k < ps.length) (v : Value) : Q.bring S an k v = match Q.at an k with
    | some i => ⟨i, 0, { Q with fr := Q.fr.modify i Fr.usedUp }, S⟩
    | none => bringR Q S an k v := by
  unfold Pm.bring
  rw [h.pages, if_neg (by simp), if_neg (by omega), if_neg (by show ¬ ((ps.length : Int) ≤ k); omega)]
  cases Q.at an k <;> rfl
theorem PinS.bringR (h : PinS q N L K ps Q S) {k : Nat} (hk : k < ps.length) (v : Value) (ha : Q.at an k = none) : bringR Q S an k v = if (Q.take S).e ≠ 0 then ⟨0, (Q.take S).e, (Q.take S).Q, (Q.take S).S⟩ else ⟨(Q.take S).i, 0, (Q.take S).Q.fill (Q.take S).i (frR an k (ps.getD k []) v), (Q.take S).S⟩ := by
  obtain ⟨G, hA, hG⟩ := h.ab
  obtain ⟨x, hx, e1, e2, -⟩ := one_ge hG
  have hna := at_none ha
  have hnd : ¬ dirtyAt Q.fr x.fi.name k := fun ⟨i, f, k1, k2, k3, k4, k5⟩ => hna i f k1 k2 (k4.trans e1) k5
  have ho := hA.ok x hx
  have hkm : k < x.m := by
    rcases Nat.lt_or_ge k x.m with h1 | h1
    · exact h1
    · exact absurd (ho.new k h1 (by rw [e2]; exact hk)) hnd
  have hb : x.pages[k]? = some (ps.getD k []) := by rw [e2, List.getD_eq_getElem?_getD, List.getElem?_eq_getElem hk]; rfl
  have hp := hA.pread hx hkm hb hnd
  rw [e1] at hp
  show (if (S.pread an k).2 ≠ 0 then _ else _) = _
  rw [hp]
  exact if_neg (by simp)
/-- a page comes. -/
theorem PinS.bring (h : PinS q N L K ps Q S) {k : Nat} (hk : k < ps.length) (v : Value) (hr : k ∈ K ∨ K.length < L) :
    (Q.bring S an k v).e = 0 ∧ PinS q N L K ps (Q.bring S an k v).Q (Q.bring S an k v).S ∧ (∃ f, (Q.bring S an k v).Q.fr[(Q.bring S an k v).i]? = some f ∧ f.full = true ∧ f.k = (k : Int) ∧ f.b = ps.getD k []) ∧ Q.mf ≤ (Q.bring S an k v).Q.mf ∧ Q.mp ≤ (Q.bring S an k v).Q.mp := by
  obtain ⟨G, hA, hG⟩ := h.ab
  obtain ⟨x, hx, e1, e2, -⟩ := one_ge hG
  have hb : x.pages[k]? = some (ps.getD k []) := by rw [e2, List.getD_eq_getElem?_getD, List.getElem?_eq_getElem hk]; rfl
  have hroom : Q.at an k = none → ∃ (j : Nat) (g : Fr), Q.fr[j]? = some g ∧ g.pins = 0 := fun ha => by
    rcases hr with hr | hr
    · obtain ⟨i, f, k1, k2, k3⟩ := h.has k hr
      exact absurd (at_none ha i f k1 k2 (h.frame k1 k2).1 k3) id
    · exact h.room hr
  have hbr := hA.bring (by rw [h.len]; exact h.hand) hx hb v (by rw [e1]; exact hroom)
  rw [e1] at hbr
  obtain ⟨G', hB, hA', hG'⟩ := hbr
  obtain ⟨f, f1, f2, f3, f4, f5⟩ := hB.at_
  refine ⟨hB.e, ?_, ⟨f, f1, f2, f4, f5⟩, ?_⟩
  · have hab : ∃ G, AbG q N (Q.bring S an k v).Q.fr (Q.bring S an k v).S G ∧ G.map Ge.fz = [⟨an, ps⟩] := ⟨G', hA', hG'.trans hG⟩
    have hlen : (Q.bring S an k v).Q.fr.length = L := hB.len.trans h.len
    have hhand : (Q.bring S an k v).Q.hand < L := by rw [← h.len]; exact hB.hand
    cases ha : Q.at an k with
    | some i =>
      have e := h.bring_at hk v
      rw [ha] at e
      obtain ⟨g, g1, g2, g3, g4⟩ := at_some ha
      rw [e] at hab hlen hhand ⊢
      have hm : Q.fr.modify i Fr.usedUp = Q.fr.set i g.usedUp := modify_eq g1 _
      refine ⟨hab, hlen, hhand, fun j f' hf' => ?_, fun j hj => ?_, h.peak⟩
      · have hf2 : (Q.fr.modify i Fr.usedUp)[j]? = some f' := hf'
        rw [hm] at hf2
        rcases set_cases g1 hf2 with ⟨rfl, rfl⟩ | ⟨_, hf3⟩
        · exact h.pins j g g1
        · exact h.pins j f' hf3
      · obtain ⟨i', f', k1, k2, k3⟩ := h.has j hj
        show ∃ (i_1 : Nat) (f : Fr), (Q.fr.modify i Fr.usedUp)[i_1]? = some f ∧ _
        rw [hm]
        by_cases ei : i' = i
        · subst ei
          rw [g1] at k1; cases k1
          exact ⟨i', g.usedUp, List.getElem?_set_self (List.getElem?_eq_some_iff.1 g1).1, k2, k3⟩
        · exact ⟨i', f', by rw [List.getElem?_set_ne (fun e => ei e.symm)]; exact k1, k2, k3⟩
    | none =>
      have e := h.bring_at hk v
      rw [ha] at e
      simp only [] at e
      obtain ⟨j0, g0, hg0, hp0⟩ := hroom ha
      obtain ⟨-, f0, ht, -, -⟩ := hA.take (by rw [h.len]; exact h.hand) hg0 hp0
      rw [h.bringR hk v ha, if_neg (by rw [ht.e]; simp)] at e
      rw [e] at hab hlen hhand ⊢
      have hi := (List.getElem?_eq_some_iff.1 ht.at_).1
      have hTl : (Q.take S).Q.fr.length = L := ht.len.trans h.len
      have hna := at_none ha
      have hkK : k ∉ K := fun hk2 => by
        obtain ⟨i, f, k1, k2, k3⟩ := h.has k hk2
        exact hna i f k1 k2 (h.frame k1 k2).1 k3
      have hoth : ∀ (j : Nat) (f : Fr), j ≠ (Q.take S).i → (Q.take S).Q.fr[j]? = some f → ∃ g, Q.fr[j]? = some g ∧ g.full = f.full ∧ g.k = f.k ∧ g.pins = f.pins := fun j f hj hf => by
        have := ht.others j hj
        rw [hf] at this
        cases hq : Q.fr[j]? with
        | none => rw [hq] at this; cases this
        | some g =>
          rw [hq] at this
          have e2 : sig f = sig g := by simpa using this
          exact ⟨g, rfl, (congrArg (fun t => t.1) e2).symm, (congrArg (fun t => t.2.2.1) e2).symm, (congrArg (fun t => t.2.2.2.2.1) e2).symm⟩
      refine ⟨hab, hlen, hhand, fun j f' hf' => ?_, fun j hj => ?_, ?_⟩
      · have hf2 : ((Q.take S).Q.fr.set (Q.take S).i { frR an k (ps.getD k []) v with full := true })[j]? = some f' := hf'
        rcases set_cases ht.at_ hf2 with ⟨rfl, rfl⟩ | ⟨hj, hf3⟩
        · rw [if_neg]
          · rfl
          · rintro ⟨-, h9⟩
            exact hkK (by simpa [frR] using h9)
        · obtain ⟨g, k1, k2, k3, k4⟩ := hoth j f' hj hf3
          rw [← k4, ← k2, ← k3]
          exact h.pins j g k1
      · obtain ⟨i', f', k1, k2, k3⟩ := h.has j hj
        have hne : i' ≠ (Q.take S).i := fun e9 => by
          subst e9
          rcases ht.free f' k1 with h9 | h9
          · rw [k2] at h9; cases h9
          · have := h.pins _ f' k1
            rw [if_pos ⟨k2, by rw [k3, Int.toNat_natCast]; exact hj⟩] at this
            omega
        have := ht.others i' hne
        rw [k1] at this
        cases hq : (Q.take S).Q.fr[i']? with
        | none => rw [hq] at this; cases this
        | some g =>
          rw [hq] at this
          have e2 : sig g = sig f' := by simpa using this
          refine ⟨i', g, ?_, (congrArg (fun t => t.1) e2).trans k2, (congrArg (fun t => t.2.2.1) e2).trans k3⟩
          show ((Q.take S).Q.fr.set (Q.take S).i { frR an k (ps.getD k []) v with full := true })[i']? = some g
          rw [List.getElem?_set_ne (fun e => hne e.symm)]
          exact hq
      · have hl : ((Q.take S).Q.fr.set (Q.take S).i { frR an k (ps.getD k []) v with full := true }).length = L := by rw [List.length_set]; exact hTl
        have a1 := heldN_le Fr.full ((Q.take S).Q.fr.set (Q.take S).i { frR an k (ps.getD k []) v with full := true })
        have a2 := heldN_le (fun f => decide (0 < f.pins)) ((Q.take S).Q.fr.set (Q.take S).i { frR an k (ps.getD k []) v with full := true })
        rw [hl] at a1 a2
        have hp := h.peak
        have hp2 := ht.peaks
        exact ⟨by show max (Q.take S).Q.mf _ ≤ L; rw [hp2.1]; exact Nat.max_le.2 ⟨hp.1, a1⟩, by show max (Q.take S).Q.mp _ ≤ L; rw [hp2.2]; exact Nat.max_le.2 ⟨hp.2, a2⟩⟩
  · cases ha : Q.at an k with
    | some i =>
      have e := h.bring_at hk v
      rw [ha] at e
      rw [e]
      exact ⟨Nat.le_refl _, Nat.le_refl _⟩
    | none =>
      have e := h.bring_at hk v
      rw [ha] at e
      simp only [] at e
      obtain ⟨j0, g0, hg0, hp0⟩ := hroom ha
      obtain ⟨-, f0, ht, -, -⟩ := hA.take (by rw [h.len]; exact h.hand) hg0 hp0
      rw [h.bringR hk v ha, if_neg (by rw [ht.e]; simp)] at e
      rw [e]
      exact ⟨by show Q.mf ≤ max (Q.take S).Q.mf _; rw [ht.peaks.1]; exact Nat.le_max_left _ _, by show Q.mp ≤ max (Q.take S).Q.mp _; rw [ht.peaks.2]; exact Nat.le_max_left _ _⟩
theorem PinS.read (h : PinS q N L K ps Q S) {k : Nat} (hk : k < ps.length) (v : Value) (hr : k ∈ K ∨ K.length < L) :
    (Q.read S an k v).e = 0 ∧ (Q.read S an k v).b = ps.getD k [] ∧ PinS q N L K ps (Q.read S an k v).Q (Q.read S an k v).S ∧ Q.mf ≤ (Q.read S an k v).Q.mf ∧ Q.mp ≤ (Q.read S an k v).Q.mp := by
  obtain ⟨b1, b2, ⟨f, f1, f2, f3, f4⟩, b4⟩ := h.bring hk v hr
  have e : Q.read S an k v = ⟨(Q.bring S an k v).Q.bytes (Q.bring S an k v).i, 0, (Q.bring S an k v).Q, (Q.bring S an k v).S⟩ := by
    unfold Pm.read; exact if_neg (by rw [b1]; simp)
  rw [e]
  exact ⟨rfl, by show Pm.bytes _ _ = _; unfold Pm.bytes; rw [f1]; exact f4, b2, b4⟩
theorem PinS.pin (h : PinS q N L K ps Q S) {k : Nat} (hk : k < ps.length) (v : Value) (hkK : k ∉ K) (hr : K.length < L) :
    (Q.pin S an k v).e = 0 ∧ (Q.pin S an k v).b = ps.getD k [] ∧ PinS q N L (K ++ [k]) ps (Q.pin S an k v).Q (Q.pin S an k v).S ∧ ((K ++ [k]).Nodup → (K ++ [k]).length = L → (Q.pin S an k v).Q.mf = L ∧ (Q.pin S an k v).Q.mp = L) := by
  obtain ⟨b1, b2, ⟨f, f1, f2, f3, f4⟩, -⟩ := h.bring hk v (.inr hr)
  have e : Q.pin S an k v = ⟨(Q.bring S an k v).Q.bytes (Q.bring S an k v).i, 0, (Q.bring S an k v).Q.pinUp (Q.bring S an k v).i, (Q.bring S an k v).S⟩ := by
    unfold Pm.pin; exact if_neg (by rw [b1]; simp)
  rw [e]
  obtain ⟨R, hR⟩ : ∃ R, R = Q.bring S an k v := ⟨_, rfl⟩
  rw [← hR] at b1 b2 f1 ⊢
  have hm : R.Q.fr.modify R.i (fun f => { f with pins := f.pins + 1 }) = R.Q.fr.set R.i { f with pins := f.pins + 1 } := modify_eq f1 _
  have hi := (List.getElem?_eq_some_iff.1 f1).1
  have hp0 : f.pins = 0 := by
    rw [b2.pins _ f f1, if_neg]
    rintro ⟨-, h9⟩
    rw [f3, Int.toNat_natCast] at h9
    exact hkK h9
  have hq : PinS q N L (K ++ [k]) ps (R.Q.pinUp R.i) R.S := by
    have hl : (R.Q.fr.modify R.i fun f => { f with pins := f.pins + 1 }).length = L := by rw [hm, List.length_set]; exact b2.len
    have a1 := heldN_le Fr.full (R.Q.fr.modify R.i fun f => { f with pins := f.pins + 1 })
    have a2 := heldN_le (fun f => decide (0 < f.pins)) (R.Q.fr.modify R.i fun f => { f with pins := f.pins + 1 })
    rw [hl] at a1 a2
    refine ⟨?_, hl, b2.hand, fun j f' hf' => ?_, fun j hj => ?_, ⟨Nat.max_le.2 ⟨b2.peak.1, a1⟩, Nat.max_le.2 ⟨b2.peak.2, a2⟩⟩⟩
    · obtain ⟨G, hA, hG⟩ := b2.ab
      refine ⟨G, ?_, hG⟩
      show AbG q N (R.Q.fr.modify R.i fun f => { f with pins := f.pins + 1 }) R.S G
      rw [hm]
      exact hA.core (set_core f1 rfl)
    · have hf2 : (R.Q.fr.modify R.i fun f => { f with pins := f.pins + 1 })[j]? = some f' := hf'
      rw [hm] at hf2
      rcases set_cases f1 hf2 with ⟨rfl, rfl⟩ | ⟨hj, hf3⟩
      · rw [if_pos ⟨f2, by show f.k.toNat ∈ _; rw [f3, Int.toNat_natCast]; simp⟩]
        show f.pins + 1 = 1
        rw [hp0]
      · rw [b2.pins j f' hf3]
        by_cases h9 : f'.full = true ∧ f'.k.toNat ∈ K
        · rw [if_pos h9, if_pos ⟨h9.1, List.mem_append.2 (.inl h9.2)⟩]
        · rw [if_neg h9, if_neg]
          rintro ⟨g1, g2⟩
          rcases List.mem_append.1 g2 with g2 | g2
          · exact h9 ⟨g1, g2⟩
          · rw [List.mem_singleton] at g2
            exact hj (b2.uniq hf3 f1 g1 f2 (by rw [g2, f3, Int.toNat_natCast]))
    · show ∃ (i_1 : Nat) (f' : Fr), (R.Q.fr.modify R.i fun f => { f with pins := f.pins + 1 })[i_1]? = some f' ∧ _
      rw [hm]
      rcases List.mem_append.1 hj with hj | hj
      · obtain ⟨i', f', k1, k2, k3⟩ := b2.has j hj
        by_cases ei : i' = R.i
        · subst ei
          rw [f1] at k1; cases k1
          exact ⟨R.i, _, List.getElem?_set_self hi, k2, k3⟩
        · exact ⟨i', f', by rw [List.getElem?_set_ne (fun e => ei e.symm)]; exact k1, k2, k3⟩
      · rw [List.mem_singleton] at hj
        subst hj
        exact ⟨R.i, _, List.getElem?_set_self hi, f2, f3⟩
  refine ⟨rfl, by show Pm.bytes _ _ = _; unfold Pm.bytes; rw [f1]; exact f4, hq, fun hn hl => ?_⟩
  have hall := hq.all hn hl
  have hmem : ∀ f' ∈ (R.Q.pinUp R.i).fr, f'.full = true ∧ f'.k.toNat ∈ K ++ [k] := fun f' hf' => by
    obtain ⟨j, hj, e⟩ := List.mem_iff_getElem.1 hf'
    exact hall j f' (by rw [List.getElem?_eq_getElem hj, e])
  have hmp : ∀ f' ∈ (R.Q.pinUp R.i).fr, f'.pins = 1 := fun f' hf' => by
    obtain ⟨j, hj, e⟩ := List.mem_iff_getElem.1 hf'
    have h9 := hall j f' (by rw [List.getElem?_eq_getElem hj, e])
    rw [hq.pins j f' (by rw [List.getElem?_eq_getElem hj, e]), if_pos h9]
  have e1 : heldN Fr.full (R.Q.pinUp R.i).fr = L := by rw [heldN_all fun f' hf' => (hmem f' hf').1]; exact hq.len
  have e2 : heldN (fun f => decide (0 < f.pins)) (R.Q.pinUp R.i).fr = L := by rw [heldN_all fun f' hf' => by rw [hmp f' hf']; rfl]; exact hq.len
  have p1 : heldN Fr.full (R.Q.pinUp R.i).fr ≤ (R.Q.pinUp R.i).mf := Nat.le_max_right _ _
  have p2 : heldN (fun f => decide (0 < f.pins)) (R.Q.pinUp R.i).fr ≤ (R.Q.pinUp R.i).mp := Nat.le_max_right _ _
  have h9 := hq.peak
  exact ⟨by show (R.Q.pinUp R.i).mf = L; omega, by show (R.Q.pinUp R.i).mp = L; omega⟩
/-- all are pinned: no other page comes. -/
theorem PinS.full (h : PinS q N L K ps Q S) (hn : K.Nodup) (hK : K.length = L) {k : Nat} (hk : k < ps.length) (hkK : k ∉ K) (v : Value) : Q.bring S an k v = ⟨0, 10, Q, S⟩ := by
  have hall := h.all hn hK
  have ha : Q.at an k = none := by
    cases e : Q.at an k with
    | none => rfl
    | some i =>
      obtain ⟨f, f1, f2, f3, f4⟩ := at_some e
      have := (hall i f f1).2
      rw [f4, Int.toNat_natCast] at this
      exact absurd this hkK
  have ht : Q.take S = ⟨0, 10, Q, S⟩ := take_pins (by rw [h.len]; exact h.hand) fun j g hg => by
    have h9 := hall j g hg
    exact ⟨h9.1, by rw [h.pins j g hg, if_pos h9]; exact Nat.one_pos⟩
  have e := h.bring_at hk v
  rw [ha] at e
  simp only [] at e
  rw [e, h.bringR hk v ha, ht, if_pos (by simp)]
theorem PinS.fullRead (h : PinS q N L K ps Q S) (hn : K.Nodup) (hK : K.length = L) {k : Nat} (hk : k < ps.length) (hkK : k ∉ K) (v : Value) : Q.read S an k v = ⟨[], 10, Q, S⟩ ∧ Q.pin S an k v = ⟨[], 10, Q, S⟩ := by
  have e := h.full hn hK hk hkK v
  exact ⟨by unfold Pm.read; rw [e]; rfl, by unfold Pm.pin; rw [e]; rfl⟩
theorem PinS.drop (h : PinS q N L K ps Q S) (hK : K ≠ []) : Q.drop S an = ⟨10, Q, S⟩ := by
  obtain ⟨j, l, rfl⟩ : ∃ j l, K = j :: l := by cases K with | nil => exact absurd rfl hK | cons j l => exact ⟨j, l, rfl⟩
  obtain ⟨i, f, f1, f2, f3⟩ := h.has j (by simp)
  unfold Pm.drop
  rw [if_pos]
  rw [List.any_eq_true]
  refine ⟨f, List.mem_of_getElem? f1, ?_⟩
  have hp := h.pins i f f1
  rw [if_pos ⟨f2, by rw [f3, Int.toNat_natCast]; simp⟩] at hp
  have hn := (h.frame f1 f2).1
  unfold ofN
  rw [f2, hn, hp]
  simp
/-- unpinned. -/
theorem PinS.unpin (h : PinS q N L K ps Q S) {k : Nat} (hk : k ∈ K) : (Q.unpin an k).2 = 0 ∧ PinS q N L (K.filter fun j => !(j == k)) ps (Q.unpin an k).1 S ∧ (Q.unpin an k).1.mf = Q.mf ∧ (Q.unpin an k).1.mp = Q.mp := by
  obtain ⟨i0, f0, k1, k2, k3⟩ := h.has k hk
  cases ha : Q.at an k with
  | none => exact absurd (at_none ha i0 f0 k1 k2 (h.frame k1 k2).1 k3) id
  | some i =>
    obtain ⟨f, f1, f2, f3, f4⟩ := at_some ha
    have hp := h.pins i f f1
    rw [if_pos ⟨f2, by rw [f4, Int.toNat_natCast]; exact hk⟩] at hp
    have e : Q.unpin an k = ({ Q with fr := Q.fr.modify i fun f => { f with pins := f.pins - 1 } }, 0) := by
      unfold Pm.unpin
      rw [ha]
      show (if Q.pinsAt i = 0 then _ else _) = _
      rw [if_neg]
      unfold Pm.pinsAt
      rw [f1]
      show ¬ f.pins = 0
      omega
    rw [e]
    have hm : Q.fr.modify i (fun f => { f with pins := f.pins - 1 }) = Q.fr.set i { f with pins := f.pins - 1 } := modify_eq f1 _
    have hi := (List.getElem?_eq_some_iff.1 f1).1
    refine ⟨rfl, ⟨?_, ?_, h.hand, fun j f' hf' => ?_, fun j hj => ?_, h.peak⟩, rfl, rfl⟩
    · obtain ⟨G, hA, hG⟩ := h.ab
      refine ⟨G, ?_, hG⟩
      show AbG q N (Q.fr.modify i fun f => { f with pins := f.pins - 1 }) S G
      rw [hm]
      exact hA.core (set_core f1 rfl)
    · show (Q.fr.modify i fun f => { f with pins := f.pins - 1 }).length = L
      rw [hm, List.length_set]; exact h.len
    · have hf2 : (Q.fr.modify i fun f => { f with pins := f.pins - 1 })[j]? = some f' := hf'
      rw [hm] at hf2
      rcases set_cases f1 hf2 with ⟨rfl, rfl⟩ | ⟨hj, hf3⟩
      · rw [if_neg]
        · show f.pins - 1 = 0; omega
        · rintro ⟨-, h9⟩
          have h8 : f.k.toNat ∈ K.filter fun j => !(j == k) := h9
          rw [f4, Int.toNat_natCast] at h8
          simp at h8
      · rw [h.pins j f' hf3]
        by_cases h9 : f'.full = true ∧ f'.k.toNat ∈ K
        · rw [if_pos h9, if_pos]
          refine ⟨h9.1, List.mem_filter.2 ⟨h9.2, ?_⟩⟩
          have : f'.k.toNat ≠ k := fun e9 => hj (h.uniq hf3 f1 h9.1 f2 (by rw [e9, f4, Int.toNat_natCast]))
          simpa using this
        · rw [if_neg h9, if_neg]
          rintro ⟨g1, g2⟩
          exact h9 ⟨g1, (List.mem_filter.1 g2).1⟩
    · obtain ⟨i', f', q1, q2, q3⟩ := h.has j (List.mem_filter.1 hj).1
      show ∃ (i_1 : Nat) (f' : Fr), (Q.fr.modify i fun f => { f with pins := f.pins - 1 })[i_1]? = some f' ∧ _
      rw [hm]
      by_cases ei : i' = i
      · subst ei
        rw [f1] at q1; cases q1
        exact ⟨i', _, List.getElem?_set_self hi, q2, q3⟩
      · exact ⟨i', f', by rw [List.getElem?_set_ne (fun e => ei e.symm)]; exact q1, q2, q3⟩
theorem PinS.unpin2 (h : PinS q N L K ps Q S) {k : Nat} (hk : k ∉ K) : Q.unpin an k = (Q, 3) := by
  unfold Pm.unpin
  cases ha : Q.at an k with
  | none => rfl
  | some i =>
    obtain ⟨f, f1, f2, f3, f4⟩ := at_some ha
    have hp := h.pins i f f1
    rw [if_neg (by rintro ⟨-, h9⟩; rw [f4, Int.toNat_natCast] at h9; exact hk h9)] at hp
    show (if Q.pinsAt i = 0 then _ else _) = _
    rw [if_pos]
    unfold Pm.pinsAt
    rw [f1]; exact hp
/-- without pins. -/
theorem PinS.of (h : Ab q N Q S [⟨an, ps⟩]) (hl : Q.fr.length = L) (hp : Q.mf ≤ L ∧ Q.mp ≤ L) : PinS q N L [] ps Q S :=
  ⟨h.ex, hl, by rw [← hl]; exact h.hand, fun i f hf => by rw [if_neg (by rintro ⟨-, h9⟩; cases h9)]; exact h.pins i f hf, fun j hj => (by cases hj), hp⟩
end
end Go.Proofs.Ytkfokgjpeaibpaa
