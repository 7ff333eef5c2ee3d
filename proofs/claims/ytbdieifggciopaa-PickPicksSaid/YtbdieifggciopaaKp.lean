/-
  Pick, plainly: the map of the first ones, who is late, who is left.
-/
import Derived.Test.YtbdieifggciopaaKm
namespace Go.Proofs.Ytbdieifggciopaa
set_option maxRecDepth 100000
set_option maxHeartbeats 400000

def firstC (l : List Cd) (v : UInt32) : Option Cd := l.find? fun x => x.d.v == v
theorem firstC_v {l : List Cd} {v : UInt32} {c : Cd} (h : firstC l v = some c) : c.d.v = v := by
  have := List.find?_some h
  simpa using this
theorem firstC_mem {l : List Cd} {v : UInt32} {c : Cd} (h : firstC l v = some c) : c ∈ l := List.mem_of_find?_eq_some h
theorem firstC_take {l : List Cd} {k : Nat} (hk : k < l.length) (v : UInt32) : firstC (l.take (k + 1)) v = (firstC (l.take k) v).or (if l[k].d.v = v then some l[k] else none) := by
  unfold firstC
  rw [List.take_succ_eq_append_getElem hk, List.find?_append]
  congr 1
  simp only [List.find?_cons, List.find?_nil, beq_iff_eq]
  by_cases e : l[k].d.v = v
  · simp [e]
  · have : (l[k].d.v == v) = false := by simpa using e
    rw [this, if_neg e]
theorem fold_first (l : List Dt) : ∀ (b : List Dt) (x : Dt), x ∈ l.foldl putD b ↔ x ∈ b ∨ (hasV b x.v = false ∧ l.find? (fun z => z.v == x.v) = some x) := by
  induction l with
  | nil => intro b x; simp
  | cons y r ih =>
    intro b x
    rw [List.foldl_cons, ih, List.find?_cons]
    unfold putD
    by_cases e : y.v = x.v
    · have e1 : (y.v == x.v) = true := by simpa using e
      rw [e1, e]
      cases hb : hasV b x.v with
      | true => simp [hb]
      | false =>
        have h2 : hasV (b ++ [y]) x.v = true := (hasV_iff _ _).2 ⟨y, by simp, e⟩
        simp only [Bool.false_eq_true, if_false, h2, List.mem_append, List.mem_singleton, Bool.true_eq_false, false_and, or_false, true_and, Option.some.injEq]
        exact or_congr Iff.rfl eq_comm
    · have e1 : (y.v == x.v) = false := by simpa using e
      rw [e1]
      simp only []
      cases hb : hasV b y.v with
      | true => simp
      | false =>
        have h2 : hasV (b ++ [y]) x.v = hasV b x.v := by
          rw [Bool.eq_iff_iff, hasV_iff, hasV_iff]
          constructor
          · rintro ⟨z, hz, ez⟩
            rcases List.mem_append.1 hz with hz | hz
            · exact ⟨z, hz, ez⟩
            · rw [List.mem_singleton.1 hz] at ez; exact absurd ez e
          · rintro ⟨z, hz, ez⟩
            exact ⟨z, List.mem_append_left _ hz, ez⟩
        simp only [Bool.false_eq_true, if_false, h2, List.mem_append, List.mem_singleton]
        constructor
        · rintro ((h | rfl) | h)
          · exact .inl h
          · exact absurd rfl e
          · exact .inr h
        · rintro (h | h)
          · exact .inl (.inl h)
          · exact .inr h
theorem onceD_first (l : List Dt) (x : Dt) : x ∈ onceD l ↔ l.find? (fun z => z.v == x.v) = some x := by
  unfold onceD
  rw [fold_first]
  simp [hasV]
theorem once_first (l : List Cd) (x : Dt) : x ∈ onceD (l.map Cd.d) ↔ ∃ c, firstC l x.v = some c ∧ c.d = x := by
  rw [onceD_first, List.find?_map]
  unfold firstC
  constructor
  · intro h
    obtain ⟨c, h1, h2⟩ := Option.map_eq_some_iff.1 h
    exact ⟨c, h1, h2⟩
  · rintro ⟨c, h1, h2⟩
    exact Option.map_eq_some_iff.2 ⟨c, h1, h2⟩
/-! who is late -/
def loser (x y : Dt) : UInt32 := if aheadD x y then y.v else x.v
def losT (F : UInt32 → Option Cd) (a : Cd) (ts : List UInt32) (v : UInt32) : Prop := ∃ t ∈ ts, ∃ b, F t = some b ∧ a.d.v ≠ b.d.v ∧ v = loser a.d b.d
/-- the late ones by those that were gone through. -/
def LS (F : UInt32 → Option Cd) (left : UInt32 → Bool) (S : UInt32 → Bool) : Prop := ∀ v, S v = true ↔ ∃ u a, F u = some a ∧ left u = false ∧ losT F a a.d.near v
def LI (F : UInt32 → Option Cd) (left : UInt32 → Bool) (a : Cd) (j : Nat) (S : UInt32 → Bool) : Prop := ∀ v, S v = true ↔ (∃ u a, F u = some a ∧ left u = false ∧ losT F a a.d.near v) ∨ losT F a (a.d.near.take j) v
theorem LS.start (F : UInt32 → Option Cd) : LS F (fun v => (F v).isSome) (fun _ => false) := fun v => by
  constructor
  · intro h; cases h
  · rintro ⟨u, a, h1, h2, _⟩
    simp only [h1] at h2; cases h2
theorem LS.inner {F : UInt32 → Option Cd} {left S : UInt32 → Bool} (h : LS F left S) (a : Cd) : LI F left a 0 S := fun v => by
  rw [h v]
  constructor
  · exact .inl
  · rintro (h | ⟨t, ht, _⟩)
    · exact h
    · simp at ht
theorem losT_succ {F : UInt32 → Option Cd} {a : Cd} {j : Nat} (hj : j < a.d.near.length) (v : UInt32) : losT F a (a.d.near.take (j + 1)) v ↔ losT F a (a.d.near.take j) v ∨ ∃ b, F a.d.near[j] = some b ∧ a.d.v ≠ b.d.v ∧ v = loser a.d b.d := by
  unfold losT
  rw [List.take_succ_eq_append_getElem hj]
  constructor
  · rintro ⟨t, ht, h⟩
    rcases List.mem_append.1 ht with ht | ht
    · exact .inl ⟨t, ht, h⟩
    · rw [List.mem_singleton.1 ht] at h; exact .inr h
  · rintro (⟨t, ht, h⟩ | h)
    · exact ⟨t, List.mem_append_left _ ht, h⟩
    · exact ⟨_, List.mem_append_right _ (List.mem_singleton.2 rfl), h⟩
theorem LI.none_ {F : UInt32 → Option Cd} {left S : UInt32 → Bool} {a : Cd} {j : Nat} (h : LI F left a j S) (hj : j < a.d.near.length) (hn : F a.d.near[j] = none) : LI F left a (j + 1) S := fun v => by
  rw [h v, losT_succ hj, hn]
  constructor
  · rintro (h | h)
    · exact .inl h
    · exact .inr (.inl h)
  · rintro (h | h | ⟨b, h, _⟩)
    · exact .inl h
    · exact .inr h
    · cases h
theorem LI.some_ {F : UInt32 → Option Cd} {left S : UInt32 → Bool} {a b : Cd} {j : Nat} (h : LI F left a j S) (hj : j < a.d.near.length) (hn : F a.d.near[j] = some b) : LI F left a (j + 1) (meetS a.d b.d S) := fun v => by
  rw [losT_succ hj, hn]
  unfold meetS
  by_cases e : a.d.v = b.d.v
  · rw [if_pos e, h v]
    constructor
    · rintro (h | h)
      · exact .inl h
      · exact .inr (.inl h)
    · rintro (h | h | ⟨b', h1, h2, _⟩)
      · exact .inl h
      · exact .inr h
      · cases h1; exact absurd e h2
  · rw [if_neg e]
    unfold addS
    by_cases ev : v = (if aheadD a.d b.d then b.d.v else a.d.v)
    · rw [if_pos ev]
      exact ⟨fun _ => .inr (.inr ⟨b, rfl, e, ev⟩), fun _ => rfl⟩
    · rw [if_neg ev, h v]
      constructor
      · rintro (h | h)
        · exact .inl h
        · exact .inr (.inl h)
      · rintro (h | h | ⟨b', h1, _, h3⟩)
        · exact .inl h
        · exact .inr h
        · cases h1; exact absurd h3 ev
theorem LI.end_ {F : UInt32 → Option Cd} {left S : UInt32 → Bool} {a : Cd} {u : UInt32} (h : LI F left a a.d.near.length S) (hu : F u = some a) : LS F (fun y => left y && !(y == u)) S := fun v => by
  rw [h v, List.take_length]
  constructor
  · rintro (⟨u', a', h1, h2, h3⟩ | h)
    · exact ⟨u', a', h1, by show (left u' && _) = false; rw [h2]; rfl, h3⟩
    · exact ⟨u, a, hu, by simp, h⟩
  · rintro ⟨u', a', h1, h2, h3⟩
    by_cases e : u' = u
    · subst e
      rw [hu] at h1; cases h1
      exact .inr h3
    · have : (u' == u) = false := by simpa using e
      simp only [this] at h2
      exact .inl ⟨u', a', h1, by simpa using h2, h3⟩
/-! who is left -/
def OutI (F : UInt32 → Option Cd) (left S : UInt32 → Bool) (out : List UInt32) : Prop := out.Nodup ∧ ∀ v, v ∈ out ↔ (F v).isSome = true ∧ left v = false ∧ S v = false
theorem OutI.start (F : UInt32 → Option Cd) (S : UInt32 → Bool) : OutI F (fun v => (F v).isSome) S [] := ⟨List.nodup_nil, fun v => by
  constructor
  · intro h; cases h
  · rintro ⟨h1, h2, _⟩; simp only [h1] at h2; cases h2⟩
theorem OutI.late {F : UInt32 → Option Cd} {left S : UInt32 → Bool} {out : List UInt32} (h : OutI F left S out) {u : UInt32} (hs : S u = true) : OutI F (fun y => left y && !(y == u)) S out := ⟨h.1, fun v => by
  rw [h.2 v]
  by_cases e : v = u
  · subst e; simp [hs]
  · have : (v == u) = false := by simpa using e
    simp [this]⟩
theorem OutI.keep {F : UInt32 → Option Cd} {left S : UInt32 → Bool} {out : List UInt32} (h : OutI F left S out) {u : UInt32} (hf : (F u).isSome = true) (hl : left u = true) (hs : S u = false) : OutI F (fun y => left y && !(y == u)) S (out ++ [u]) := by
  have hnot : u ∉ out := fun hm => by
    have := ((h.2 u).1 hm).2.1
    rw [hl] at this; cases this
  refine ⟨List.nodup_append.2 ⟨h.1, by simp, fun a ha b hb => by rw [List.mem_singleton.1 hb]; exact fun e => hnot (e ▸ ha)⟩, fun v => ?_⟩
  rw [List.mem_append, List.mem_singleton, h.2 v]
  by_cases e : v = u
  · subst e; simp [hf, hs]
  · have : (v == u) = false := by simpa using e
    simp [this, e]
theorem pick_plain {l : List Cd} {left S : UInt32 → Bool} {out out' : List UInt32} (hl : ∀ v, left v = false) (hS : LS (firstC l) left S) (ho : OutI (firstC l) left S out) (hp : out'.Perm out) (hr : RisU out') : PickOf (onceD (l.map Cd.d)) out' := by
  refine ⟨?_, fun v => ?_⟩
  · have hn : out'.Nodup := hp.nodup_iff.2 ho.1
    exact (List.pairwise_and_iff.2 ⟨hr, hn⟩).imp fun {a b} h => by
      have : a.toNat ≠ b.toNat := fun e => h.2 (UInt32.toNat_inj.1 e)
      have := h.1
      omega
  · rw [hp.mem_iff, ho.2 v]
    have key : ∀ x ∈ onceD (l.map Cd.d), x.v = v → (S v = true ↔ lateD (onceD (l.map Cd.d)) x) := by
      intro x hx hxv
      subst hxv
      obtain ⟨c, hc, hcd⟩ := (once_first l x).1 hx
      rw [hS x.v]
      constructor
      · rintro ⟨u, a, h1, _, t, ht, b, h2, h3, h4⟩
        have hau := firstC_v h1
        have hbt := firstC_v h2
        have ha : a.d ∈ onceD (l.map Cd.d) := (once_first l a.d).2 ⟨a, by rw [hau]; exact h1, rfl⟩
        have hb : b.d ∈ onceD (l.map Cd.d) := (once_first l b.d).2 ⟨b, by rw [hbt]; exact h2, rfl⟩
        unfold loser at h4
        by_cases hab : aheadD a.d b.d
        · rw [if_pos hab] at h4
          have e : x = b.d := (onceD_uni _).eq hx hb h4
          exact ⟨a.d, ha, by rw [e]; exact h3, .inr (by rw [e, hbt]; exact ht), by rw [e]; exact hab⟩
        · rw [if_neg hab] at h4
          have e : x = a.d := (onceD_uni _).eq hx ha h4
          exact ⟨b.d, hb, by rw [e]; exact fun e2 => h3 e2.symm, .inl (by rw [e, hbt]; exact ht), by rw [e]; exact aheadD_not hab h3⟩
      · rintro ⟨y, hy, hne, hnear, hah⟩
        obtain ⟨e, he, hed⟩ := (once_first l y).1 hy
        rcases hnear with hn | hn
        · refine ⟨x.v, c, hc, hl _, y.v, by rw [hcd]; exact hn, e, he, by rw [hcd, hed]; exact fun e2 => hne e2.symm, ?_⟩
          rw [hcd, hed]
          unfold loser
          rw [if_neg (aheadD_asym hah)]
        · refine ⟨y.v, e, he, hl _, x.v, by rw [hed]; exact hn, c, hc, by rw [hcd, hed]; exact hne, ?_⟩
          rw [hcd, hed]
          unfold loser
          rw [if_pos hah]
    constructor
    · rintro ⟨h1, _, h3⟩
      obtain ⟨c, hc⟩ := Option.isSome_iff_exists.1 h1
      have hcv := firstC_v hc
      have hm : c.d ∈ onceD (l.map Cd.d) := (once_first l c.d).2 ⟨c, by rw [hcv]; exact hc, rfl⟩
      refine ⟨c.d, hm, hcv, fun hlate => ?_⟩
      have := (key c.d hm hcv).2 hlate
      rw [h3] at this; cases this
    · rintro ⟨x, hx, hxv, hnl⟩
      obtain ⟨c, hc, hcd⟩ := (once_first l x).1 hx
      refine ⟨by rw [← hxv, hc]; rfl, hl v, ?_⟩
      rw [Bool.eq_false_iff]
      exact fun h => hnl ((key x hx hxv).1 h)
end Go.Proofs.Ytbdieifggciopaa
