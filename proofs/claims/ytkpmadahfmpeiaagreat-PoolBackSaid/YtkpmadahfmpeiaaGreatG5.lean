/-
  A pool without pins over a disk with room: every answer, plain.
-/
import Derived.Test.YtkpmadahfmpeiaaGreatG4
namespace Go.Proofs.YtkpmadahfmpeiaaGreat
set_option maxRecDepth 100000

def Fg (F : List Fz) (n : List UInt8) : Option (List (List UInt8)) := (F.find? fun x => x.name == n).map Fz.pages
def aPg (F : List Fz) (n : List UInt8) : List (List UInt8) := (Fg F n).getD []
def aErr (F : List Fz) (n : List UInt8) : Nat := if rightB n = false then 1 else if (Fg F n).isNone then 3 else 0
def aRead (F : List Fz) (n : List UInt8) (k : Int) : List UInt8 × Nat :=
  if aErr F n ≠ 0 then ([], aErr F n) else if k < 0 then ([], 1) else if ((aPg F n).length : Int) ≤ k then ([], 3) else ((aPg F n).getD k.toNat [], 0)
def Fz.put (n : List UInt8) (k : Nat) (b : List UInt8) (x : Fz) : Fz := if x.name = n then { x with pages := setP x.pages k b } else x
def aWrite (F : List Fz) (n : List UInt8) (k : Int) (b : List UInt8) : List Fz × Nat :=
  if 240 < b.length then (F, 9) else if aErr F n ≠ 0 then (F, aErr F n) else if k < 0 ∨ ((aPg F n).length : Int) < k then (F, 1) else (F.map (Fz.put n k.toNat b), 0)
def aCreate (F : List Fz) (n : List UInt8) : List Fz × Nat := if rightB n = false then (F, 1) else if (Fg F n).isSome then (F, 4) else (F ++ [⟨n, []⟩], 0)
def aDrop (F : List Fz) (n : List UInt8) : List Fz × Nat := if aErr F n ≠ 0 then (F, aErr F n) else (F.filter fun x => !(x.name == n), 0)
/-- a pool over a disk with room. -/
structure Ab (q N : Nat) (Q : Pm) (S : Dk) (F : List Fz) : Prop where
  ex : ∃ G, AbG q N Q.fr S G ∧ G.map Ge.fz = F
  hand : Q.hand < Q.fr.length
  pins : ∀ (i : Nat) (f : Fr), Q.fr[i]? = some f → f.pins = 0
section
variable {q N : Nat} {Q : Pm} {S : Dk} {F : List Fz} {G : List Ge} {fr : List Fr}
theorem fg_some (h : AbG q N fr S G) {x : Ge} (hx : x ∈ G) : Fg (G.map Ge.fz) x.fi.name = some x.pages := by
  have hn := h.nodup
  clear h
  unfold Fg
  induction G with
  | nil => cases hx
  | cons a l ih =>
    rw [List.map_cons, List.nodup_cons] at hn
    rw [List.map_cons, List.find?_cons]
    rcases List.mem_cons.1 hx with e | hx
    · subst e
      rw [show (x.fz.name == x.fi.name) = true from by simp [Ge.fz]]; rfl
    · have : a.fi.name ≠ x.fi.name := fun e => hn.1 (List.mem_map.2 ⟨x, hx, e.symm⟩)
      rw [show (a.fz.name == x.fi.name) = false from by simpa [Ge.fz] using this]
      exact ih hx hn.2
theorem fg_none {n : List UInt8} (hn : ∀ x ∈ G, x.fi.name ≠ n) : Fg (G.map Ge.fz) n = none := by
  unfold Fg
  rw [Option.map_eq_none_iff, List.find?_eq_none]
  intro y hy
  obtain ⟨x, hx, rfl⟩ := List.mem_map.1 hy
  simpa [Ge.fz] using hn x hx
theorem fg_cases (h : AbG q N fr S G) (n : List UInt8) : (∃ x ∈ G, x.fi.name = n ∧ rightB n = true ∧ Fg (G.map Ge.fz) n = some x.pages) ∨ ((∀ x ∈ G, x.fi.name ≠ n) ∧ Fg (G.map Ge.fz) n = none) := by
  by_cases hx : ∃ x ∈ G, x.fi.name = n
  · obtain ⟨x, h1, rfl⟩ := hx
    exact .inl ⟨x, h1, rfl, (h.ok x h1).right, fg_some h h1⟩
  · have : ∀ x ∈ G, x.fi.name ≠ n := fun x h1 e => hx ⟨x, h1, e⟩
    exact .inr ⟨this, fg_none this⟩
theorem pgs_none (h : AbG q N fr S G) {n : List UInt8} (hn : ∀ x ∈ G, x.fi.name ≠ n) : S.pgs n = (0, if rightB n = false then 1 else 3) := by
  have e : S.size n = (0, if rightB n = false then 1 else 3) := by
    unfold Dk.size
    rw [if_neg (by rw [h.idle.2]; simp), h.find_no hn]
    split <;> rfl
  unfold Dk.pgs
  rw [e]
  rw [if_pos (by show (if rightB n = false then 1 else 3) ≠ 0; split <;> simp)]
def matchD (n : List UInt8) (f : Fr) : Bool := f.full && (f.dirty && f.n == n)
theorem pagesN_eq (n : List UInt8) (L : Int) : ∀ (fr : List Fr) (n0 : Int), n0 ≤ L → (∀ f ∈ fr, matchD n f = true → f.k + 1 ≤ L) → (n0 = L ∨ ∃ f ∈ fr, matchD n f = true ∧ f.k + 1 = L) → pagesN fr n n0 = L
  | [], n0, _, _, h => by
    rcases h with h | ⟨f, hf, _⟩
    · exact h
    · cases hf
  | f :: fr, n0, h0, h1, h2 => by
    have ih := pagesN_eq n L fr
    unfold pagesN at ih ⊢
    rw [List.foldl_cons]
    show List.foldl _ (if matchD n f = true then max n0 (f.k + 1) else n0) fr = L
    by_cases hm : matchD n f = true
    · rw [if_pos hm]
      have h3 := h1 f (by simp) hm
      refine ih _ (by omega) (fun x hx => h1 x (by simp [hx])) ?_
      rcases h2 with h | ⟨g, hg, k1, k2⟩
      · exact .inl (by omega)
      · rcases List.mem_cons.1 hg with e | hg
        · subst e; exact .inl (by omega)
        · exact .inr ⟨g, hg, k1, k2⟩
    · rw [if_neg hm]
      refine ih _ h0 (fun x hx => h1 x (by simp [hx])) ?_
      rcases h2 with h | ⟨g, hg, k1, k2⟩
      · exact .inl h
      · rcases List.mem_cons.1 hg with e | hg
        · subst e; exact absurd k1 hm
        · exact .inr ⟨g, hg, k1, k2⟩
theorem matchD_iff {n : List UInt8} {f : Fr} : matchD n f = true ↔ f.full = true ∧ f.dirty = true ∧ f.n = n := by unfold matchD; simp
theorem AbG.pages (h : AbG q N Q.fr S G) (n : List UInt8) : Q.pages S n = (((aPg (G.map Ge.fz) n).length : Int), aErr (G.map Ge.fz) n) := by
  rcases fg_cases h n with ⟨x, hx, rfl, hr, hf⟩ | ⟨hn, hf⟩
  · unfold Pm.pages aPg aErr
    rw [h.pgs hx, hf, hr, if_neg (by simp), if_neg (by simp), if_neg (by simp)]
    show (pagesN Q.fr x.fi.name (x.m : Int), 0) = ((x.pages.length : Int), 0)
    congr 1
    have ho := h.ok x hx
    refine pagesN_eq _ _ _ _ (by have := ho.le; omega) (fun f hf hm => ?_) ?_
    · obtain ⟨m1, m2, m3⟩ := matchD_iff.1 hm
      obtain ⟨i, hi, e⟩ := List.mem_iff_getElem.1 hf
      obtain ⟨y, hy, q1, q2, q3⟩ := h.held i f (by rw [List.getElem?_eq_getElem hi, e]) m1
      obtain rfl := ge_uniq h.nodup hy hx (q1.trans m3)
      have := (List.getElem?_eq_some_iff.1 q3).1
      omega
    · by_cases e : x.m = x.pages.length
      · exact .inl (by omega)
      · have := ho.le
        obtain ⟨i, f, k1, k2, k3, k4, k5⟩ := ho.new (x.pages.length - 1) (by omega) (by omega)
        exact .inr ⟨f, List.mem_of_getElem? k1, matchD_iff.2 ⟨k2, k3, k4⟩, by omega⟩
  · unfold Pm.pages aPg aErr
    rw [pgs_none h hn, hf, if_pos (by show (if rightB n = false then 1 else 3) ≠ 0; split <;> simp)]
    show ((0 : Int), _) = (((([] : List (List UInt8)).length : Nat) : Int), _)
    congr 1
theorem at_some {n : List UInt8} {k : Int} {i : Nat} (h : Q.at n k = some i) : ∃ f, Q.fr[i]? = some f ∧ f.full = true ∧ f.n = n ∧ f.k = k := by
  unfold Pm.at at h
  obtain ⟨hi, h1, -⟩ := List.findIdx?_eq_some_iff_getElem.1 h
  refine ⟨Q.fr[i], List.getElem?_eq_getElem hi, ?_⟩
  unfold isP at h1
  simpa using h1
theorem at_none {n : List UInt8} {k : Int} (h : Q.at n k = none) : ∀ (j : Nat) (g : Fr), Q.fr[j]? = some g → g.full = true → g.n = n → g.k = k → False := by
  unfold Pm.at at h
  rw [List.findIdx?_eq_none_iff] at h
  intro j g hg h1 h2 h3
  have := h g (List.mem_of_getElem? hg)
  unfold isP at this
  rw [h1, h2, h3] at this
  simp at this
theorem modify_eq {i : Nat} {f : Fr} (h : fr[i]? = some f) (u : Fr → Fr) : fr.modify i u = fr.set i (u f) := by
  apply List.ext_getElem?
  intro j
  rw [List.getElem?_modify]
  by_cases e : i = j
  · subst e
    rw [List.getElem?_set_self (List.getElem?_eq_some_iff.1 h).1, h]; simp
  · rw [List.getElem?_set_ne e]; simp [e]
/-- what a page that is brought leaves. -/
structure Brought (Q : Pm) (R : TakeR) (n : List UInt8) (k : Int) (b : List UInt8) : Prop where
  e : R.e = 0
  at_ : ∃ f, R.Q.fr[R.i]? = some f ∧ f.full = true ∧ f.n = n ∧ f.k = k ∧ f.b = b
  len : R.Q.fr.length = Q.fr.length
  hand : R.Q.hand < Q.fr.length
  pins : (∀ (i : Nat) (f : Fr), Q.fr[i]? = some f → f.pins = 0) → ∀ (i : Nat) (f : Fr), R.Q.fr[i]? = some f → f.pins = 0
theorem Took.pins {R : TakeR} {f0 : Fr} (h : Took Q R f0) (hp : ∀ (i : Nat) (f : Fr), Q.fr[i]? = some f → f.pins = 0) (i : Nat) (f : Fr) (hf : R.Q.fr[i]? = some f) : f.pins = 0 := by
  by_cases e : i = R.i
  · subst e
    rw [h.at_] at hf; cases hf
    rcases h.was with e | e
    · rw [e]; rfl
    · exact hp _ _ e
  · have := h.others i e
    rw [hf] at this
    cases hq : Q.fr[i]? with
    | none => rw [hq] at this; cases this
    | some g =>
      rw [hq] at this
      have e2 : sig f = sig g := by simpa using this
      have : f.pins = g.pins := congrArg (fun t => t.2.2.2.2.1) e2
      rw [this]; exact hp i g hq
theorem Took.none_ {R : TakeR} {f0 : Fr} (h : Took Q R f0) {n : List UInt8} {k : Int} (hn : ∀ (j : Nat) (g : Fr), Q.fr[j]? = some g → g.full = true → g.n = n → g.k = k → False) (j : Nat) (g : Fr) (hg : R.Q.fr[j]? = some g) (h1 : g.full = true) (h2 : g.n = n) (h3 : g.k = k) : False := by
  by_cases e : j = R.i
  · subst e
    rw [h.at_] at hg; cases hg
    rw [h.full] at h1; cases h1
  · have := h.others j e
    rw [hg] at this
    cases hq : Q.fr[j]? with
    | none => rw [hq] at this; cases this
    | some g2 =>
      rw [hq] at this
      have e2 : sig g = sig g2 := by simpa using this
      have a1 : g.full = g2.full := congrArg (fun t => t.1) e2
      have a2 : g.n = g2.n := congrArg (fun t => t.2.1) e2
      have a3 : g.k = g2.k := congrArg (fun t => t.2.2.1) e2
      exact hn j g2 hq (by rw [← a1]; exact h1) (by rw [← a2]; exact h2) (by rw [← a3]; exact h3)
theorem AbG.bring (h : AbG q N Q.fr S G) (hh : Q.hand < Q.fr.length) {x : Ge} (hx : x ∈ G) {k : Nat} {b : List UInt8} (hb : x.pages[k]? = some b) (v : Value)
    (hp : Q.at x.fi.name k = none → ∃ (j : Nat) (g : Fr), Q.fr[j]? = some g ∧ g.pins = 0) :
    ∃ G', Brought Q (Q.bring S x.fi.name k v) x.fi.name k b ∧ AbG q N (Q.bring S x.fi.name k v).Q.fr (Q.bring S x.fi.name k v).S G' ∧ G'.map Ge.fz = G.map Ge.fz := by
  have hkl : k < x.pages.length := (List.getElem?_eq_some_iff.1 hb).1
  have hpg := h.pages x.fi.name
  have hfx := fg_some h hx
  have ho := h.ok x hx
  have e1 : aErr (G.map Ge.fz) x.fi.name = 0 := by unfold aErr; rw [hfx, ho.right]; rfl
  have e2 : aPg (G.map Ge.fz) x.fi.name = x.pages := by unfold aPg; rw [hfx]; rfl
  rw [e1, e2] at hpg
  have hbr : Q.bring S x.fi.name k v = match Q.at x.fi.name k with
      | some i => ⟨i, 0, { Q with fr := Q.fr.modify i Fr.usedUp }, S⟩
      | none => bringR Q S x.fi.name k v := by
    unfold Pm.bring
    rw [hpg, if_neg (by simp), if_neg (by omega), if_neg (by show ¬ ((x.pages.length : Int) ≤ k); omega)]
    cases Q.at x.fi.name k <;> rfl
  cases ha : Q.at x.fi.name k with
  | some i =>
    rw [ha] at hbr
    rw [hbr]
    obtain ⟨f, k1, k2, k3, k4⟩ := at_some ha
    obtain ⟨y, hy, q1, q2, q3⟩ := h.held i f k1 k2
    obtain rfl := ge_uniq h.nodup hy hx (q1.trans k3)
    rw [k4, Int.toNat_natCast, hb] at q3
    have hi := (List.getElem?_eq_some_iff.1 k1).1
    have hm := modify_eq k1 Fr.usedUp
    refine ⟨G, ⟨rfl, ⟨f.usedUp, ?_, k2, k3, k4, (Option.some.inj q3).symm⟩, ?_, hh, fun hp0 j g hg => ?_⟩, ?_, rfl⟩
    · show (Q.fr.modify i Fr.usedUp)[i]? = _
      rw [hm, List.getElem?_set_self hi]
    · show (Q.fr.modify i Fr.usedUp).length = _
      rw [hm, List.length_set]
    · have hg2 : (Q.fr.modify i Fr.usedUp)[j]? = some g := hg
      rw [hm] at hg2
      rcases set_cases k1 hg2 with ⟨_, rfl⟩ | ⟨_, hg3⟩
      · exact hp0 i f k1
      · exact hp0 j g hg3
    · show AbG q N (Q.fr.modify i Fr.usedUp) S G
      rw [hm]
      exact h.core (set_core k1 rfl)
  | none =>
    rw [ha] at hbr
    rw [hbr]
    obtain ⟨j, g, hg, hg0⟩ := hp ha
    obtain ⟨G', f0, ht, hA, hfz⟩ := h.take hh hg hg0
    have hna := at_none ha
    have hnd : ¬ dirtyAt Q.fr x.fi.name k := fun ⟨i, f, k1, k2, k3, k4, k5⟩ => hna i f k1 k2 k4 k5
    have hkm : k < x.m := by
      rcases Nat.lt_or_ge k x.m with h1 | h1
      · exact h1
      · exact absurd (ho.new k h1 hkl) hnd
    have er : bringR Q S x.fi.name k v = ⟨(Q.take S).i, 0, (Q.take S).Q.fill (Q.take S).i (frR x.fi.name k b v), (Q.take S).S⟩ := by
      unfold bringR
      rw [h.pread hx hkm hb hnd, if_neg (by simp), if_neg (by rw [ht.e]; simp)]
    rw [er]
    obtain ⟨x', hx', n1, n2⟩ := mem_fz hfz hx
    have hi := (List.getElem?_eq_some_iff.1 ht.at_).1
    have hq := ht.none_ hna
    refine ⟨G', ⟨rfl, ⟨{ frR x.fi.name k b v with full := true }, List.getElem?_set_self hi, rfl, rfl, rfl, rfl⟩, ?_, ht.hand, fun hp0 j g hg => ?_⟩, ?_, hfz⟩
    · show ((Q.take S).Q.fr.set _ _).length = _
      rw [List.length_set, ht.len]
    · rcases set_cases ht.at_ hg with ⟨_, rfl⟩ | ⟨_, hg3⟩
      · rfl
      · exact ht.pins hp0 j g hg3
    · exact hA.came ht.at_ ht.full hx' n1.symm rfl (by rw [n2]; exact hb) rfl (by rw [n1]; exact hq)
theorem Ab.pages (h : Ab q N Q S F) (n : List UInt8) : Q.pages S n = (((aPg F n).length : Int), aErr F n) := by
  obtain ⟨G, h1, rfl⟩ := h.ex
  exact h1.pages n
theorem Ab.somePin (h : Ab q N Q S F) : ∃ (j : Nat) (g : Fr), Q.fr[j]? = some g ∧ g.pins = 0 := by
  have := List.getElem?_eq_getElem h.hand
  exact ⟨_, _, this, h.pins _ _ this⟩
theorem aErr_some (h : AbG q N fr S G) {n : List UInt8} (he : aErr (G.map Ge.fz) n = 0) : ∃ x ∈ G, x.fi.name = n ∧ aPg (G.map Ge.fz) n = x.pages := by
  rcases fg_cases h n with ⟨x, hx, h1, h2, h3⟩ | ⟨h1, h2⟩
  · exact ⟨x, hx, h1, by unfold aPg; rw [h3]; rfl⟩
  · unfold aErr at he
    rw [h2] at he
    split at he <;> simp at he
theorem Ab.read (h : Ab q N Q S F) (n : List UInt8) (k : Int) (v : Value) : (Q.read S n k v).b = (aRead F n k).1 ∧ (Q.read S n k v).e = (aRead F n k).2 ∧ Ab q N (Q.read S n k v).Q (Q.read S n k v).S F := by
  have hpg := h.pages n
  have hbad : ∀ e : Nat, e ≠ 0 → Q.bring S n k v = ⟨0, e, Q, S⟩ → aRead F n k = ([], e) → (Q.read S n k v).b = (aRead F n k).1 ∧ (Q.read S n k v).e = (aRead F n k).2 ∧ Ab q N (Q.read S n k v).Q (Q.read S n k v).S F := fun e he hb ha => by
    have : Q.read S n k v = ⟨[], e, Q, S⟩ := by unfold Pm.read; rw [hb]; exact if_pos he
    rw [this, ha]
    exact ⟨rfl, rfl, h⟩
  by_cases h1 : aErr F n = 0
  · by_cases h2 : k < 0
    · exact hbad 1 (by omega) (by unfold Pm.bring; rw [hpg, if_neg (by simpa using h1), if_pos h2]) (by unfold aRead; rw [if_neg (by simpa using h1), if_pos h2])
    · by_cases h3 : ((aPg F n).length : Int) ≤ k
      · exact hbad 3 (by omega) (by unfold Pm.bring; rw [hpg, if_neg (by simpa using h1), if_neg h2, if_pos h3]) (by unfold aRead; rw [if_neg (by simpa using h1), if_neg h2, if_pos h3])
      · obtain ⟨G, hG, hF⟩ := h.ex
        subst hF
        obtain ⟨x, hx, hn, hps⟩ := aErr_some hG h1
        subst hn
        obtain ⟨kn, rfl⟩ : ∃ kn : Nat, k = (kn : Int) := ⟨k.toNat, by omega⟩
        rw [hps] at h3
        have hb : x.pages[kn]? = some (x.pages.getD kn []) := by
          rw [List.getD_eq_getElem?_getD, List.getElem?_eq_getElem (by omega)]; rfl
        obtain ⟨G', hB, hA, hfz⟩ := hG.bring h.hand hx hb v fun _ => h.somePin
        have ea : aRead (G.map Ge.fz) x.fi.name kn = (x.pages.getD kn [], 0) := by
          unfold aRead
          rw [if_neg (by simpa using h1), if_neg h2, hps, if_neg h3, Int.toNat_natCast]
        have er : Q.read S x.fi.name kn v = ⟨(Q.bring S x.fi.name kn v).Q.bytes (Q.bring S x.fi.name kn v).i, 0, (Q.bring S x.fi.name kn v).Q, (Q.bring S x.fi.name kn v).S⟩ := by
          unfold Pm.read
          exact if_neg (by rw [hB.e]; simp)
        rw [er, ea]
        obtain ⟨f, k1, k2, k3, k4, k5⟩ := hB.at_
        refine ⟨?_, rfl, ⟨G', hA, hfz⟩, by rw [hB.len]; exact hB.hand, hB.pins h.pins⟩
        show (Q.bring S x.fi.name kn v).Q.bytes _ = _
        unfold Pm.bytes
        rw [k1]; exact k5
  · exact hbad _ h1 (by unfold Pm.bring; rw [hpg, if_pos h1]) (by unfold aRead; rw [if_pos h1])
theorem put_fz (n : List UInt8) (k : Nat) (b : List UInt8) (G : List Ge) : (G.map fun y => y.put n k b).map Ge.fz = (G.map Ge.fz).map (Fz.put n k b) := by
  rw [List.map_map, List.map_map]
  refine List.map_congr_left fun x _ => ?_
  show (x.put n k b).fz = (x.fz).put n k b
  unfold Ge.put Fz.put
  show (if x.fi.name = n then _ else x : Ge).fz = if x.fi.name = n then _ else x.fz
  split <;> rfl
theorem AbG.more (h : AbG q N fr S G) {N' : Nat} (hN : N ≤ N' ∧ (N' ≤ 10000 ∧ 4 * N' + 4 ≤ q)) : AbG q N' fr S G := ⟨h.idle, h.quota, h.fs, h.nodup, h.ok, ⟨by have := h.total.1; omega, hN.2⟩, h.held, h.low, h.uniq⟩
theorem Ab.more (h : Ab q N Q S F) {N' : Nat} (hN : N ≤ N' ∧ (N' ≤ 10000 ∧ 4 * N' + 4 ≤ q)) : Ab q N' Q S F := by
  obtain ⟨G, h1, h2⟩ := h.ex
  exact ⟨⟨G, h1.more hN, h2⟩, h.hand, h.pins⟩
theorem Ab.write (h : Ab q N Q S F) (n : List UInt8) (k : Int) (b : List UInt8) (v : Value) (hN : N + 1 ≤ 10000 ∧ 4 * (N + 1) + 4 ≤ q) : (Q.write S n k b v).e = (aWrite F n k b).2 ∧ Ab q (N + 1) (Q.write S n k b v).Q (Q.write S n k b v).S (aWrite F n k b).1 := by
  have hpg := h.pages n
  have hbad : ∀ e : Nat, Q.write S n k b v = ⟨e, Q, S⟩ → aWrite F n k b = (F, e) → (Q.write S n k b v).e = (aWrite F n k b).2 ∧ Ab q (N + 1) (Q.write S n k b v).Q (Q.write S n k b v).S (aWrite F n k b).1 := fun e hb ha => by
    rw [hb, ha]
    exact ⟨rfl, h.more ⟨by omega, hN⟩⟩
  by_cases h0 : 240 < b.length
  · exact hbad 9 (by unfold Pm.write; rw [if_pos h0]) (by unfold aWrite; rw [if_pos h0])
  by_cases h1 : aErr F n = 0
  · by_cases h2 : k < 0 ∨ ((aPg F n).length : Int) < k
    · exact hbad 1 (by unfold Pm.write; rw [if_neg h0, hpg, if_neg (by simpa using h1), if_pos h2]) (by unfold aWrite; rw [if_neg h0, if_neg (by simpa using h1), if_pos h2])
    · obtain ⟨G, hG, hF⟩ := h.ex
      subst hF
      obtain ⟨x, hx, hn, hps⟩ := aErr_some hG h1
      subst hn
      have hk0 : 0 ≤ k ∧ k ≤ ((aPg (G.map Ge.fz) x.fi.name).length : Int) := by rw [not_or] at h2; omega
      obtain ⟨kn, rfl⟩ : ∃ kn : Nat, k = (kn : Int) := ⟨k.toNat, by omega⟩
      rw [hps] at hk0
      have ea : aWrite (G.map Ge.fz) x.fi.name kn b = ((G.map Ge.fz).map (Fz.put x.fi.name kn b), 0) := by
        unfold aWrite
        rw [if_neg h0, if_neg (by simpa using h1), if_neg h2, Int.toNat_natCast]
      have ew : Q.write S x.fi.name kn b v = match Q.at x.fi.name kn with
          | some i => ⟨0, Q.wrote i b v, S⟩
          | none => if (Q.take S).e ≠ 0 then ⟨(Q.take S).e, (Q.take S).Q, (Q.take S).S⟩
            else ⟨0, ((Q.take S).Q.fill (Q.take S).i ⟨true, x.fi.name, kn, [], .slice none 0 0, 0, false, false⟩).wrote (Q.take S).i b v, (Q.take S).S⟩ := by
        unfold Pm.write
        rw [if_neg h0, hpg, if_neg (by simpa using h1), if_neg h2]
        cases Q.at x.fi.name kn <;> rfl
      rw [ea, ← put_fz]
      cases hat : Q.at x.fi.name kn with
      | some i =>
        rw [hat] at ew
        rw [ew]
        obtain ⟨f, k1, k2, k3, k4⟩ := at_some hat
        have hm := modify_eq k1 fun f => { f with b := b, bv := v, dirty := true, used := true }
        refine ⟨rfl, ⟨_, ?_, rfl⟩, ?_, fun j g hg => ?_⟩
        · show AbG q (N + 1) (Q.fr.modify i _) S _
          rw [hm]
          exact hG.wrote (b := b) (f' := { f with b := b, bv := v, dirty := true, used := true }) k1 hx (by omega) (by omega) k2 k3 k4 rfl rfl (fun j g hg g1 g2 g3 => hG.uniq j i g f hg k1 g1 k2 (g2.trans k3.symm) (g3.trans k4.symm)) (fun _ => ⟨k3, k4⟩) ⟨Nat.le_refl _, hN⟩
        · show Q.hand < (Q.fr.modify i _).length
          rw [hm, List.length_set]; exact h.hand
        · have hg2 : (Q.fr.modify i _)[j]? = some g := hg
          rw [hm] at hg2
          rcases set_cases k1 hg2 with ⟨_, rfl⟩ | ⟨_, hg3⟩
          · exact h.pins i f k1
          · exact h.pins j g hg3
      | none =>
        rw [hat] at ew
        have hna := at_none hat
        obtain ⟨j0, g0, hg0, hp0⟩ := h.somePin
        obtain ⟨G', f0, ht, hA, hfz⟩ := hG.take h.hand hg0 hp0
        have ew2 : Q.write S x.fi.name kn b v = ⟨0, ((Q.take S).Q.fill (Q.take S).i ⟨true, x.fi.name, kn, [], .slice none 0 0, 0, false, false⟩).wrote (Q.take S).i b v, (Q.take S).S⟩ := by
          rw [ew]; exact if_neg (by rw [ht.e]; simp)
        rw [ew2]
        have hi := (List.getElem?_eq_some_iff.1 ht.at_).1
        obtain ⟨x', hx', n1, n2⟩ := mem_fz hfz hx
        obtain ⟨f1, hf1⟩ : ∃ f1 : Fr, f1 = { (⟨true, x.fi.name, kn, [], .slice none 0 0, 0, false, false⟩ : Fr) with full := true } := ⟨_, rfl⟩
        have hs : ((Q.take S).Q.fill (Q.take S).i ⟨true, x.fi.name, kn, [], .slice none 0 0, 0, false, false⟩).fr = (Q.take S).Q.fr.set (Q.take S).i f1 := by rw [hf1]; rfl
        have h3 : ((Q.take S).Q.fr.set (Q.take S).i f1)[(Q.take S).i]? = some f1 := List.getElem?_set_self hi
        have hm := modify_eq h3 fun f => { f with b := b, bv := v, dirty := true, used := true }
        rw [List.set_set] at hm
        have hq := ht.none_ hna
        refine ⟨rfl, ⟨G'.map fun y => y.put x'.fi.name kn b, ?_, ?_⟩, ?_, fun j g hg => ?_⟩
        · show AbG q (N + 1) (((Q.take S).Q.fill _ _).fr.modify _ _) _ _
          rw [hs, hm]
          exact hA.wrote (b := b) (f' := { f1 with b := b, bv := v, dirty := true, used := true }) ht.at_ hx' (by rw [n2]; omega) (by omega) (by rw [hf1]) (by rw [hf1]; exact n1.symm) (by rw [hf1]) rfl rfl (fun j g hg g1 g2 g3 => (hq j g hg g1 (g2.trans n1) g3).elim) (fun hf => by rw [ht.full] at hf; cases hf) ⟨Nat.le_refl _, hN⟩
        · rw [put_fz, hfz, n1, put_fz]
        · show (Q.take S).Q.hand < (((Q.take S).Q.fill _ _).fr.modify _ _).length
          rw [hs, hm, List.length_set, ht.len]; exact ht.hand
        · have hg2 : (((Q.take S).Q.fill _ _).fr.modify (Q.take S).i fun f => { f with b := b, bv := v, dirty := true, used := true })[j]? = some g := hg
          rw [hs, hm] at hg2
          rcases set_cases ht.at_ hg2 with ⟨_, rfl⟩ | ⟨_, hg3⟩
          · rw [hf1]
          · exact ht.pins h.pins j g hg3
  · exact hbad _ (by unfold Pm.write; rw [if_neg h0, hpg, if_pos h1]) (by unfold aWrite; rw [if_neg h0, if_pos h1])
theorem Ab.create (h : Ab q N Q S F) (n : List UInt8) : (S.create n).2 = (aCreate F n).2 ∧ Ab q N Q (S.create n).1 (aCreate F n).1 := by
  obtain ⟨G, hG, rfl⟩ := h.ex
  by_cases hr : rightB n = false
  · have e : S.create n = (S, 1) := by unfold Dk.create; rw [hG.idle.begin, if_neg (by rw [hG.idle.2]; simp), if_pos hr]
    rw [e, show aCreate (G.map Ge.fz) n = (G.map Ge.fz, 1) from if_pos hr]
    exact ⟨rfl, ⟨G, hG, rfl⟩, h.hand, h.pins⟩
  · have hr' : rightB n = true := by simpa using hr
    rcases fg_cases hG n with ⟨x, hx, h1, h2, h3⟩ | ⟨h1, h2⟩
    · have e : S.create n = (S, 4) := by
        unfold Dk.create
        have := hG.find hx
        rw [h1] at this
        rw [hG.idle.begin, if_neg (by rw [hG.idle.2]; simp), if_neg hr, this]; rfl
      have ea : aCreate (G.map Ge.fz) n = (G.map Ge.fz, 4) := by unfold aCreate; rw [if_neg hr, h3]; rfl
      rw [e, ea]
      exact ⟨rfl, ⟨G, hG, rfl⟩, h.hand, h.pins⟩
    · obtain ⟨e0, hA⟩ := hG.create hr' h1
      have ea : aCreate (G.map Ge.fz) n = (G.map Ge.fz ++ [⟨n, []⟩], 0) := by unfold aCreate; rw [if_neg hr, h2]; rfl
      rw [e0, ea]
      exact ⟨rfl, ⟨_, hA, by rw [List.map_append]; rfl⟩, h.hand, h.pins⟩
theorem Ab.drop (h : Ab q N Q S F) (n : List UInt8) : (Q.drop S n).e = (aDrop F n).2 ∧ Ab q N (Q.drop S n).Q (Q.drop S n).S (aDrop F n).1 := by
  obtain ⟨G, hG, rfl⟩ := h.ex
  have e0 : Q.drop S n = ⟨(S.remove n).2, { Q with fr := Q.fr.map (dropF n) }, (S.remove n).1⟩ := by
    unfold Pm.drop
    rw [if_neg]
    · rfl
    · rw [List.any_eq_true]
      rintro ⟨f, hf, hb⟩
      obtain ⟨i, hi, e⟩ := List.mem_iff_getElem.1 hf
      have := h.pins i f (by rw [List.getElem?_eq_getElem hi, e])
      simp [this] at hb
  rw [e0]
  have hl : Q.hand < (Q.fr.map (dropF n)).length := by rw [List.length_map]; exact h.hand
  have hp : ∀ (i : Nat) (f : Fr), (Q.fr.map (dropF n))[i]? = some f → f.pins = 0 := fun i f hf => by
    rw [List.getElem?_map] at hf
    cases hq : Q.fr[i]? with
    | none => rw [hq] at hf; cases hf
    | some g =>
      rw [hq] at hf
      have : dropF n g = f := by simpa using hf
      subst this
      unfold dropF
      split
      · rfl
      · exact h.pins i g hq
  rcases fg_cases hG n with ⟨x, hx, h1, h2, h3⟩ | ⟨h1, h2⟩
  · obtain ⟨e1, hA⟩ := hG.drop h2 hx h1
    have ea : aDrop (G.map Ge.fz) n = ((G.map Ge.fz).filter fun x => !(x.name == n), 0) := by
      unfold aDrop aErr; rw [h3, h2]; rfl
    rw [ea]
    refine ⟨e1, ⟨_, hA, ?_⟩, hl, hp⟩
    rw [List.filter_map]; rfl
  · have hid : Q.fr.map (dropF n) = Q.fr := by
      apply List.ext_getElem?
      intro i
      rw [List.getElem?_map]
      cases hq : Q.fr[i]? with
      | none => rfl
      | some g =>
        show some (dropF n g) = some g
        unfold dropF
        rw [if_neg]
        intro hb
        unfold ofN at hb
        simp at hb
        obtain ⟨y, hy, q1, -⟩ := hG.held i g hq hb.1
        exact h1 y hy (q1.trans hb.2)
    have e1 : S.remove n = (S, if rightB n = false then 1 else 3) := by
      unfold Dk.remove
      rw [hG.idle.begin, if_neg (by rw [hG.idle.2]; simp), hG.find_no h1]
      split <;> rfl
    have ea : aDrop (G.map Ge.fz) n = (G.map Ge.fz, if rightB n = false then 1 else 3) := by
      have : aErr (G.map Ge.fz) n = if rightB n = false then 1 else 3 := by unfold aErr; rw [h2]; rfl
      unfold aDrop
      rw [this, if_pos (by split <;> simp)]
    rw [e1, ea]
    refine ⟨rfl, ⟨G, ?_, rfl⟩, hl, hp⟩
    show AbG q N (Q.fr.map (dropF n)) S G
    rw [hid]; exact hG
/-- a file that was flushed. -/
structure Flushed (Q : Pm) (S : Dk) (n : List UInt8) : Prop where
  clean : ∀ (i : Nat) (f : Fr), Q.fr[i]? = some f → f.full = true → f.n = n → f.dirty = false
  loose : ∀ k, S.loose n k = false
  lasts : ∀ f, S.find n = some f → f.lasts = f.now
theorem Ab.flush (h : Ab q N Q S F) (n : List UInt8) : (Q.flush S n).e = aErr F n ∧ Ab q N (Q.flush S n).Q (Q.flush S n).S F ∧ (aErr F n = 0 → Flushed (Q.flush S n).Q (Q.flush S n).S n) ∧ ∀ s, s ≠ n → Flushed Q S s → Flushed (Q.flush S n).Q (Q.flush S n).S s := by
  obtain ⟨G, hG, rfl⟩ := h.ex
  rcases fg_cases hG n with ⟨x, hx, rfl, h2, h3⟩ | ⟨h1, h2⟩
  · have ea : aErr (G.map Ge.fz) x.fi.name = 0 := by unfold aErr; rw [h3, h2]; rfl
    obtain ⟨G', r1, r2, r3, r4, r5⟩ := hG.putAll hx
    obtain ⟨x', hx', n1, n2⟩ := mem_fz r3 hx
    obtain ⟨s1, s2⟩ := r2.sync hx'
    rw [n1] at s1 s2
    obtain ⟨R, hR⟩ : ∃ R, R = putL x.fi.name (dirtyL Q.fr x.fi.name 0 16777216) Q.fr S := ⟨_, rfl⟩
    rw [← hR] at r1 r2 r4 r5 s1 s2
    have hs0 : R.S.sync x.fi.name = (R.S.synced x.fi.name, 0) := sync_idle r2.idle h2 (by rw [← n1]; exact r2.find hx')
    have e : Q.flush S x.fi.name = ⟨(R.S.sync x.fi.name).2, { Q with fr := R.fr }, (R.S.sync x.fi.name).1⟩ := by
      unfold Pm.flush
      rw [hG.pgs hx, if_neg (by simp), ← hR, if_neg (by rw [r1]; simp)]
    rw [e, s1, ea]
    have hlen : R.fr.length = Q.fr.length := by
      have : ∀ q : Nat, (R.fr[q]?).isSome = (Q.fr[q]?).isSome := fun q => by rw [r4]; cases Q.fr[q]? <;> rfl
      have h1 := this R.fr.length
      have h2 := this Q.fr.length
      simp at h1 h2
      omega
    have hmem : ∀ {i : Nat} {f : Fr}, R.fr[i]? = some f → ∃ g, Q.fr[i]? = some g ∧ f = if g.full = true ∧ g.n = x.fi.name then g.clean else g := fun {i f} hf => by
      rw [r4] at hf
      cases hq : Q.fr[i]? with
      | none => rw [hq] at hf; cases hf
      | some g => rw [hq] at hf; exact ⟨g, rfl, (Option.some.inj hf).symm⟩
    refine ⟨rfl, ⟨⟨_, s2, by rw [syn_fz, r3]⟩, by show Q.hand < R.fr.length; rw [hlen]; exact h.hand, fun i f hf => ?_⟩, fun _ => ⟨fun i f hf f1 f2 => ?_, fun k => ?_, fun f hf => ?_⟩, fun s hs hfl => ⟨fun i f hf f1 f2 => ?_, fun k => ?_, fun f hf => ?_⟩⟩
    · obtain ⟨g, g1, rfl⟩ := hmem hf
      split <;> exact h.pins i g g1
    · obtain ⟨g, g1, rfl⟩ := hmem hf
      by_cases hc : g.full = true ∧ g.n = x.fi.name
      · rw [if_pos hc]; rfl
      · rw [if_neg hc] at f1 f2; exact absurd ⟨f1, f2⟩ hc
    · rw [hs0]
      show (R.S.loose x.fi.name k && !(x.fi.name == x.fi.name)) = false
      simp
    · rw [hs0] at hf
      have hf2 : (R.S.synced x.fi.name).find x.fi.name = some f := hf
      rw [find_synced] at hf2
      cases hq : R.S.find x.fi.name with
      | none => rw [hq] at hf2; cases hf2
      | some f0 =>
        rw [hq] at hf2
        have : (if f0.name = x.fi.name then { f0 with lasts := f0.now } else f0) = f := by simpa using hf2
        rw [if_pos (find_some hq).2] at this
        subst this; rfl
    · obtain ⟨g, g1, rfl⟩ := hmem hf
      by_cases hc : g.full = true ∧ g.n = x.fi.name
      · rw [if_pos hc]; rfl
      · rw [if_neg hc] at f1 f2 ⊢; exact hfl.clean i g g1 f1 f2
    · rw [hs0]
      show (R.S.loose s k && !(s == x.fi.name)) = false
      rw [(r5 s hs).2, hfl.loose]; rfl
    · rw [hs0] at hf
      have hf2 : (R.S.synced x.fi.name).find s = some f := hf
      rw [find_synced, (r5 s hs).1] at hf2
      cases hq : S.find s with
      | none => rw [hq] at hf2; cases hf2
      | some f0 =>
        rw [hq] at hf2
        have : (if f0.name = x.fi.name then { f0 with lasts := f0.now } else f0) = f := by simpa using hf2
        rw [if_neg (by rw [(find_some hq).2]; exact hs)] at this
        subst this
        exact hfl.lasts f0 hq
  · have ea : aErr (G.map Ge.fz) n = if rightB n = false then 1 else 3 := by unfold aErr; rw [h2]; rfl
    have hne : (if rightB n = false then 1 else 3) ≠ 0 := by split <;> simp
    have e : Q.flush S n = ⟨if rightB n = false then 1 else 3, Q, S⟩ := by
      unfold Pm.flush
      rw [pgs_none hG h1]; exact if_pos hne
    rw [e, ea]
    exact ⟨rfl, h, fun h3 => absurd h3 hne, fun s _ hf => hf⟩
theorem fg_one (n : List UInt8) (ps : List (List UInt8)) : Fg [⟨n, ps⟩] n = some ps := by unfold Fg; simp
theorem aErr_one {n : List UInt8} (hr : rightB n = true) (ps : List (List UInt8)) : aErr [⟨n, ps⟩] n = 0 := by unfold aErr; rw [fg_one, hr]; rfl
theorem aPg_one (n : List UInt8) (ps : List (List UInt8)) : aPg [⟨n, ps⟩] n = ps := by unfold aPg; rw [fg_one]; rfl
theorem aRead_one {n : List UInt8} (hr : rightB n = true) (ps : List (List UInt8)) {k : Nat} (hk : k < ps.length) : aRead [⟨n, ps⟩] n k = (ps.getD k [], 0) := by
  unfold aRead
  rw [aErr_one hr, aPg_one, if_neg (by simp), if_neg (by omega), if_neg (by omega), Int.toNat_natCast]
theorem aWrite_one {n : List UInt8} (hr : rightB n = true) (ps : List (List UInt8)) {k : Nat} (hk : k ≤ ps.length) {b : List UInt8} (hb : b.length ≤ 240) : aWrite [⟨n, ps⟩] n k b = ([⟨n, setP ps k b⟩], 0) := by
  unfold aWrite
  rw [if_neg (by omega), aErr_one hr, aPg_one, if_neg (by simp), if_neg (by omega), Int.toNat_natCast]
  show (List.map (Fz.put n k b) [⟨n, ps⟩], 0) = _
  rw [List.map_cons, List.map_nil]
  unfold Fz.put
  rw [if_pos rfl]
end
end Go.Proofs.YtkpmadahfmpeiaaGreat
