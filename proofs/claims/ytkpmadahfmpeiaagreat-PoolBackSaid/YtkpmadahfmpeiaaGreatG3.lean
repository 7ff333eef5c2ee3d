/-
  A pool over a disk with room holds files of pages: plain. What a page that is written or comes in, a file that is made, taken away or synced does to them.
-/
import Derived.Test.YtkpmadahfmpeiaaGreatG1
namespace Go.Proofs.YtkpmadahfmpeiaaGreat
set_option maxRecDepth 100000

def setP (ps : List (List UInt8)) (k : Nat) (b : List UInt8) : List (List UInt8) := if k < ps.length then ps.set k b else ps ++ [b]
theorem setP_len {ps : List (List UInt8)} {k : Nat} (h : k ≤ ps.length) (b : List UInt8) : (setP ps k b).length = max ps.length (k + 1) := by
  unfold setP
  split
  · rw [List.length_set]; omega
  · rw [List.length_append]; simp; omega
theorem setP_at {ps : List (List UInt8)} {k : Nat} (h : k ≤ ps.length) (b : List UInt8) (j : Nat) : (setP ps k b)[j]? = if j = k then some b else ps[j]? := by
  unfold setP
  split
  · next h1 =>
    rw [List.getElem?_set]
    by_cases e : k = j
    · rw [if_pos e, if_pos e.symm, if_pos h1]
    · rw [if_neg e, if_neg (fun e2 => e e2.symm)]
  · next h1 =>
    have : k = ps.length := by omega
    subst this
    by_cases e : j = ps.length
    · subst e; rw [if_pos rfl, List.getElem?_append_right (Nat.le_refl _)]; simp
    · rw [if_neg e]
      by_cases e2 : j < ps.length
      · rw [List.getElem?_append_left e2]
      · rw [List.getElem?_append_right (by omega), List.getElem?_eq_none (by simp; omega), List.getElem?_eq_none (by omega)]
theorem setP_mem {ps : List (List UInt8)} {k : Nat} {b c : List UInt8} (h : c ∈ setP ps k b) : c ∈ ps ∨ c = b := by
  unfold setP at h
  split at h
  · exact List.mem_or_eq_of_mem_set h
  · rcases List.mem_append.1 h with h | h
    · exact .inl h
    · exact .inr (by simpa using h)
def Ge.put (n : List UInt8) (k : Nat) (b : List UInt8) (x : Ge) : Ge := if x.fi.name = n then { x with pages := setP x.pages k b } else x
theorem put_fi (n : List UInt8) (k : Nat) (b : List UInt8) (x : Ge) : (x.put n k b).fi = x.fi := by unfold Ge.put; split <;> rfl
theorem put_m (n : List UInt8) (k : Nat) (b : List UInt8) (x : Ge) : (x.put n k b).m = x.m := by unfold Ge.put; split <;> rfl
section
variable {q N : Nat} {fr : List Fr} {S : Dk} {G : List Ge}
theorem set_cases {i : Nat} {f f' : Fr} (hf : fr[i]? = some f) {a : Nat} {g : Fr} (ha : (fr.set i f')[a]? = some g) : (a = i ∧ g = f') ∨ (a ≠ i ∧ fr[a]? = some g) := by
  by_cases e : i = a
  · subst e
    rw [List.getElem?_set_self (List.getElem?_eq_some_iff.1 hf).1] at ha
    cases ha
    exact .inl ⟨rfl, rfl⟩
  · rw [List.getElem?_set_ne e] at ha
    exact .inr ⟨fun e2 => e e2.symm, ha⟩
theorem sum_put (hnd : (G.map fun x => x.fi.name).Nodup) {x : Ge} (hx : x ∈ G) {k : Nat} (hk : k ≤ x.pages.length) (b : List UInt8) : sumP (G.map fun y => y.put x.fi.name k b) ≤ sumP G + 1 := by
  unfold sumP
  rw [List.map_map]
  induction G with
  | nil => cases hx
  | cons a l ih =>
    simp only [List.map_cons, List.sum_cons, Function.comp]
    rw [List.map_cons, List.nodup_cons] at hnd
    rcases List.mem_cons.1 hx with e | hx
    · subst e
      have e1 : (x.put x.fi.name k b).pages.length = max x.pages.length (k + 1) := by
        unfold Ge.put; rw [if_pos rfl]; exact setP_len hk b
      have e2 : l.map ((fun x : Ge => x.pages.length) ∘ fun y => y.put x.fi.name k b) = l.map fun y => y.pages.length := List.map_congr_left fun y hy => by
        show (y.put x.fi.name k b).pages.length = _
        unfold Ge.put
        rw [if_neg fun e => hnd.1 (List.mem_map.2 ⟨y, hy, e⟩)]
      rw [e1, e2]; omega
    · have := ih hnd.2 hx
      have e1 : a.put x.fi.name k b = a := by
        unfold Ge.put
        rw [if_neg fun e => hnd.1 (List.mem_map.2 ⟨x, hx, e.symm⟩)]
      rw [e1]
      omega
/-- a frame holds a page that is written. -/
theorem AbG.wrote (h : AbG q N fr S G) {i : Nat} {f : Fr} (hf : fr[i]? = some f) {x : Ge} (hx : x ∈ G) {k : Nat} (hk : k ≤ x.pages.length) {b : List UInt8} (hb : b.length ≤ 240) {f' : Fr}
    (h1 : f'.full = true) (h2 : f'.n = x.fi.name) (h3 : f'.k = (k : Int)) (h4 : f'.b = b) (h5 : f'.dirty = true) (hq : ∀ (j : Nat) (g : Fr), fr[j]? = some g → g.full = true → g.n = x.fi.name → g.k = (k : Int) → j = i)
    (hq2 : f.full = true → f.n = x.fi.name ∧ f.k = (k : Int)) {N' : Nat} (hN : N + 1 ≤ N' ∧ (N' ≤ 10000 ∧ 4 * N' + 4 ≤ q)) : AbG q N' (fr.set i f') S (G.map fun y => y.put x.fi.name k b) := by
  have hold : ∀ j, dirtyAt fr x.fi.name j → j = k ∨ dirtyAt (fr.set i f') x.fi.name j := fun j hd => by
    rcases (dirtyAt_but hf _ _).1 hd with ⟨d1, _, _, d4⟩ | h4
    · have := (hq2 d1).2
      exact .inl (by omega)
    · exact .inr ((dirtyAt_set hf _ _).2 (.inr h4))
  have hdk : dirtyAt (fr.set i f') x.fi.name k := (dirtyAt_set hf _ _).2 (.inl ⟨h1, h5, h2, h3⟩)
  refine ⟨h.idle, h.quota, ?_, ?_, fun y hy => ?_, ?_, fun j g hg hg1 => ?_, fun j g hg hg1 => ?_, fun a c g g' ha hc hg hg' en ek => ?_⟩
  · rw [h.fs, List.map_map]
    exact List.map_congr_left fun y _ => (put_fi _ _ _ y).symm
  · rw [List.map_map]
    have : ((fun y : Ge => y.fi.name) ∘ fun y => y.put x.fi.name k b) = fun y : Ge => y.fi.name := by
      funext y; exact congrArg Fi.name (put_fi _ _ _ y)
    rw [this]; exact h.nodup
  · obtain ⟨z, hz, rfl⟩ := List.mem_map.1 hy
    have hoz := h.ok z hz
    by_cases e : z.fi.name = x.fi.name
    · obtain rfl := ge_uniq h.nodup hz hx e
      have eu : z.put z.fi.name k b = { z with pages := setP z.pages k b } := if_pos rfl
      rw [eu]
      refine ⟨hoz.right, ?_, hoz.len, fun j b' hj hb2 hnd => ?_, fun j hj1 hj2 => ?_, fun c hc => ?_⟩
      · show z.m ≤ (setP z.pages k b).length
        rw [setP_len hk]; have := hoz.le; omega
      · have hjk : j ≠ k := fun e => hnd (by rw [e]; exact hdk)
        have hb3 : (setP z.pages k b)[j]? = some b' := hb2
        rw [setP_at hk, if_neg hjk] at hb3
        exact hoz.at_ j b' hj hb3 fun hd => (hold j hd).elim hjk hnd
      · have hj3 : j < (setP z.pages k b).length := hj2
        rw [setP_len hk] at hj3
        by_cases e : j = k
        · rw [e]; exact hdk
        · exact (hold j (hoz.new j hj1 (by omega))).resolve_left e
      · rcases setP_mem hc with hc | hc
        · exact hoz.small c hc
        · rw [hc]; exact hb
    · have eu : z.put x.fi.name k b = z := if_neg e
      rw [eu]
      refine hoz.dirt fun j => ?_
      rw [dirtyAt_set hf, dirtyAt_but hf]
      constructor
      · rintro (⟨_, _, d3, _⟩ | h4)
        · exact absurd (d3.symm.trans h2) e
        · exact .inr h4
      · rintro (⟨d1, _, d3, _⟩ | h4)
        · exact absurd (d3.symm.trans (hq2 d1).1) e
        · exact .inr h4
  · exact ⟨by have := sum_put h.nodup hx hk b; have := h.total.1; omega, hN.2⟩
  · rcases set_cases hf hg with ⟨_, rfl⟩ | ⟨hne, hg2⟩
    · refine ⟨x.put x.fi.name k b, List.mem_map.2 ⟨x, hx, rfl⟩, by rw [put_fi, h2], by omega, ?_⟩
      rw [h3, h4, Int.toNat_natCast]
      show (x.put x.fi.name k b).pages[k]? = some b
      unfold Ge.put
      rw [if_pos rfl]
      show (setP x.pages k b)[k]? = _
      rw [setP_at hk, if_pos rfl]
    · obtain ⟨y, hy, q1, q2, q3⟩ := h.held j g hg2 hg1
      refine ⟨y.put x.fi.name k b, List.mem_map.2 ⟨y, hy, rfl⟩, by rw [put_fi, q1], q2, ?_⟩
      by_cases e : y.fi.name = x.fi.name
      · obtain rfl := ge_uniq h.nodup hy hx e
        have hgk : g.k.toNat ≠ k := fun e => hne (hq j g hg2 hg1 q1.symm (by omega))
        have eu : y.put y.fi.name k b = { y with pages := setP y.pages k b } := if_pos rfl
        rw [eu]
        show (setP y.pages k b)[g.k.toNat]? = _
        rw [setP_at hk, if_neg hgk]; exact q3
      · have eu : y.put x.fi.name k b = y := if_neg e
        rw [eu]; exact q3
  · rcases set_cases hf hg with ⟨_, rfl⟩ | ⟨hne, hg2⟩
    · rw [h1] at hg1; cases hg1
    · exact h.low j g hg2 hg1
  · rcases set_cases hf ha with ⟨ea, rfl⟩ | ⟨ha1, ha2⟩
    · rcases set_cases hf hc with ⟨ec, _⟩ | ⟨hc1, hc2⟩
      · rw [ea, ec]
      · exact absurd (hq c g' hc2 hg' (en.symm.trans h2) (ek.symm.trans h3)) hc1
    · rcases set_cases hf hc with ⟨ec, rfl⟩ | ⟨hc1, hc2⟩
      · exact absurd (hq a g ha2 hg (en.trans h2) (ek.trans h3)) ha1
      · exact h.uniq a c g g' ha2 hc2 hg hg' en ek
/-- a page comes in. -/
theorem AbG.came (h : AbG q N fr S G) {i : Nat} {f : Fr} (hf : fr[i]? = some f) (hf0 : f.full = false) {x : Ge} (hx : x ∈ G) {k : Nat} {f' : Fr}
    (h2 : f'.n = x.fi.name) (h3 : f'.k = (k : Int)) (h4 : x.pages[k]? = some f'.b) (h5 : f'.dirty = false) (hq : ∀ (j : Nat) (g : Fr), fr[j]? = some g → g.full = true → g.n = x.fi.name → g.k = (k : Int) → False) : AbG q N (fr.set i f') S G := by
  refine ⟨h.idle, h.quota, h.fs, h.nodup, fun y hy => (h.ok y hy).dirt fun j => ?_, h.total, fun j g hg hg1 => ?_, fun j g hg hg1 => ?_, fun a c g g' ha hc hg hg' en ek => ?_⟩
  · rw [dirtyAt_set hf, dirtyAt_but hf]
    constructor
    · rintro (⟨_, h6, _⟩ | h7)
      · rw [h5] at h6; cases h6
      · exact .inr h7
    · rintro (⟨h6, _⟩ | h7)
      · rw [hf0] at h6; cases h6
      · exact .inr h7
  · rcases set_cases hf hg with ⟨_, rfl⟩ | ⟨hne, hg2⟩
    · exact ⟨x, hx, h2.symm, by omega, by rw [h3, Int.toNat_natCast]; exact h4⟩
    · exact h.held j g hg2 hg1
  · rcases set_cases hf hg with ⟨_, rfl⟩ | ⟨hne, hg2⟩
    · exact h5
    · exact h.low j g hg2 hg1
  · rcases set_cases hf ha with ⟨ea, rfl⟩ | ⟨ha1, ha2⟩
    · rcases set_cases hf hc with ⟨ec, _⟩ | ⟨hc1, hc2⟩
      · rw [ea, ec]
      · exact (hq c g' hc2 hg' (en.symm.trans h2) (ek.symm.trans h3)).elim
    · rcases set_cases hf hc with ⟨ec, rfl⟩ | ⟨hc1, hc2⟩
      · exact (hq a g ha2 hg (en.trans h2) (ek.trans h3)).elim
      · exact h.uniq a c g g' ha2 hc2 hg hg' en ek
/-- a file is made. -/
theorem AbG.create (h : AbG q N fr S G) {n : List UInt8} (hr : rightB n = true) (hn : ∀ x ∈ G, x.fi.name ≠ n) : (S.create n).2 = 0 ∧ AbG q N fr (S.create n).1 (G ++ [⟨⟨n, [], []⟩, [], 0⟩]) := by
  rw [create_idle h.idle hr (h.find_no hn)]
  refine ⟨rfl, ⟨h.idle.1, h.idle.2⟩, h.quota, ?_, ?_, fun x hx => ?_, ?_, fun i f hf h1 => ?_, h.low, h.uniq⟩
  · show S.fs ++ _ = _
    rw [h.fs, List.map_append]; rfl
  · rw [List.map_append, List.nodup_append]
    refine ⟨h.nodup, by simp, fun a ha b hb e => ?_⟩
    obtain ⟨x, hx, rfl⟩ := List.mem_map.1 ha
    have hb' : b = n := by simpa using hb
    exact hn x hx (e.trans hb')
  · rcases List.mem_append.1 hx with hx | hx
    · exact h.ok x hx
    · obtain rfl : x = ⟨⟨n, [], []⟩, [], 0⟩ := by simpa using hx
      exact ⟨hr, Nat.le_refl _, rfl, fun j b hj => absurd hj (by simp), fun j _ hj => absurd hj (by simp), fun b hb => absurd hb (by simp)⟩
  · refine ⟨?_, h.total.2⟩
    have : sumP (G ++ [⟨⟨n, [], []⟩, [], 0⟩]) = sumP G := by unfold sumP; simp
    rw [this]; exact h.total.1
  · obtain ⟨x, hx, h2⟩ := h.held i f hf h1
    exact ⟨x, by simp [hx], h2⟩
def dropF (n : List UInt8) (f : Fr) : Fr := if ofN n f then fr0 else f
theorem dropF_full {n : List UInt8} {f : Fr} (h : (dropF n f).full = true) : dropF n f = f ∧ f.full = true ∧ f.n ≠ n := by
  unfold dropF at h ⊢
  by_cases e : ofN n f = true
  · rw [if_pos e] at h; cases h
  · rw [if_neg e] at h ⊢
    refine ⟨rfl, h, fun e2 => e ?_⟩
    unfold ofN
    rw [h, e2]; simp
/-- a file is taken away. -/
theorem AbG.drop (h : AbG q N fr S G) {n : List UInt8} (hr : rightB n = true) {x : Ge} (hx : x ∈ G) (hn : x.fi.name = n) : (S.remove n).2 = 0 ∧ AbG q N (fr.map (dropF n)) (S.remove n).1 (G.filter fun y => !(y.fi.name == n)) := by
  have e : S.remove n = (S.removed n, 0) := by
    have hf := h.find hx
    rw [hn] at hf
    unfold Dk.remove
    rw [h.idle.begin, if_neg (by rw [h.idle.2]; simp), if_neg (by rw [hr]; simp), hf]
  rw [e]
  have hmem : ∀ {y}, y ∈ G.filter (fun y => !(y.fi.name == n)) → y ∈ G ∧ y.fi.name ≠ n := fun {y} hy => by
    rw [List.mem_filter] at hy
    exact ⟨hy.1, by simpa using hy.2⟩
  have hmap : ∀ {i : Nat} {g : Fr}, (fr.map (dropF n))[i]? = some g → g.full = true → fr[i]? = some g ∧ g.n ≠ n := fun {i g} hg hg1 => by
    rw [List.getElem?_map] at hg
    cases hq : fr[i]? with
    | none => rw [hq] at hg; cases hg
    | some f =>
      rw [hq] at hg
      have : dropF n f = g := by simpa using hg
      subst this
      obtain ⟨e1, e2, e3⟩ := dropF_full hg1
      rw [e1]
      exact ⟨rfl, e3⟩
  refine ⟨rfl, ⟨h.idle.1, h.idle.2⟩, h.quota, ?_, ?_, fun y hy => ?_, ?_, fun i f hf h1 => ?_, fun i f hf h1 => ?_, fun a c g g' ha hc hg hg' en ek => ?_⟩
  · show butF S.fs n = _
    rw [h.fs]
    unfold butF
    rw [List.filter_map]; rfl
  · exact h.nodup.sublist (List.Sublist.map _ List.filter_sublist)
  · obtain ⟨hy1, hy2⟩ := hmem hy
    refine (h.ok y hy1).dirt fun j => ⟨fun hd => ?_, fun hd => ?_⟩
    · obtain ⟨i, g, k1, k2, k3⟩ := hd
      exact ⟨i, g, (hmap k1 k2).1, k2, k3⟩
    · obtain ⟨i, g, k1, k2, k3, k4, k5⟩ := hd
      refine ⟨i, g, ?_, k2, k3, k4, k5⟩
      rw [List.getElem?_map, k1]
      show some (dropF n g) = some g
      unfold dropF
      rw [if_neg]
      unfold ofN
      rw [k2, k4]
      simpa using hy2
  · refine ⟨?_, h.total.2⟩
    have hs : sumP (G.filter fun y => !(y.fi.name == n)) ≤ sumP G := by
      clear hmem hmap hx e
      unfold sumP
      clear h
      induction G with
      | nil => simp
      | cons a l ih =>
        rw [List.filter_cons]
        split
        · simp only [List.map_cons, List.sum_cons]; omega
        · simp only [List.map_cons, List.sum_cons]; omega
    exact Nat.le_trans hs h.total.1
  · obtain ⟨k1, k2⟩ := hmap hf h1
    obtain ⟨y, hy, q1, q2⟩ := h.held i f k1 h1
    exact ⟨y, by rw [List.mem_filter]; exact ⟨hy, by rw [q1]; simpa using k2⟩, q1, q2⟩
  · rw [List.getElem?_map] at hf
    cases hq : fr[i]? with
    | none => rw [hq] at hf; cases hf
    | some f0 =>
      rw [hq] at hf
      have : dropF n f0 = f := by simpa using hf
      subst this
      unfold dropF at h1 ⊢
      split
      · rfl
      · next e => rw [if_neg e] at h1; exact h.low i f0 hq h1
  · exact h.uniq a c g g' (hmap ha hg).1 (hmap hc hg').1 hg hg' en ek
def Ge.syn (n : List UInt8) (x : Ge) : Ge := if x.fi.name = n then { x with fi := { x.fi with lasts := x.fi.now } } else x
theorem syn_name (n : List UInt8) (x : Ge) : (x.syn n).fi.name = x.fi.name ∧ (x.syn n).pages = x.pages ∧ (x.syn n).m = x.m ∧ (x.syn n).fi.now = x.fi.now := by unfold Ge.syn; split <;> exact ⟨rfl, rfl, rfl, rfl⟩
theorem syn_fz (n : List UInt8) : (G.map (Ge.syn n)).map Ge.fz = G.map Ge.fz := by
  rw [List.map_map]
  refine List.map_congr_left fun x _ => ?_
  show (⟨(x.syn n).fi.name, (x.syn n).pages⟩ : Fz) = ⟨x.fi.name, x.pages⟩
  rw [(syn_name n x).1, (syn_name n x).2.1]
/-- a file is synced. -/
theorem AbG.sync (h : AbG q N fr S G) {x : Ge} (hx : x ∈ G) : (S.sync x.fi.name).2 = 0 ∧ AbG q N fr (S.sync x.fi.name).1 (G.map (Ge.syn x.fi.name)) := by
  rw [sync_idle h.idle (h.ok x hx).right (h.find hx)]
  refine ⟨rfl, ⟨h.idle.1, h.idle.2⟩, h.quota, ?_, ?_, fun y hy => ?_, ?_, fun i f hf h1 => ?_, h.low, h.uniq⟩
  · show setF S.fs x.fi.name _ = _
    rw [h.fs]
    unfold setF
    rw [List.map_map, List.map_map]
    refine List.map_congr_left fun y _ => ?_
    show (if y.fi.name = x.fi.name then _ else y.fi) = (y.syn _).fi
    unfold Ge.syn
    split <;> rfl
  · rw [List.map_map]
    have : ((fun y : Ge => y.fi.name) ∘ Ge.syn x.fi.name) = fun y : Ge => y.fi.name := by
      funext y; exact (syn_name _ y).1
    rw [this]; exact h.nodup
  · obtain ⟨z, hz, rfl⟩ := List.mem_map.1 hy
    obtain ⟨e1, e2, e3, e4⟩ := syn_name x.fi.name z
    have ho := h.ok z hz
    exact ⟨by rw [e1]; exact ho.right, by rw [e2, e3]; exact ho.le, by rw [e3, e4]; exact ho.len, fun j b => by rw [e1, e2, e3, e4]; exact ho.at_ j b, fun j => by rw [e1, e2, e3]; exact ho.new j, by rw [e2]; exact ho.small⟩
  · refine ⟨?_, h.total.2⟩
    have : sumP (G.map (Ge.syn x.fi.name)) = sumP G := by
      unfold sumP
      rw [List.map_map]
      congr 1
      exact List.map_congr_left fun y _ => congrArg List.length (syn_name _ y).2.1
    rw [this]; exact h.total.1
  · obtain ⟨y, hy, q1, q2, q3⟩ := h.held i f hf h1
    obtain ⟨e1, e2, -⟩ := syn_name x.fi.name y
    exact ⟨_, List.mem_map.2 ⟨y, hy, rfl⟩, e1.trans q1, q2, by rw [e2]; exact q3⟩
end
end Go.Proofs.YtkpmadahfmpeiaaGreat
