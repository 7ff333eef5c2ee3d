/-
  DiskTorn: plain.
-/
import Derived.Test.YtfbbbbekialpnaaL6
namespace Go.Proofs.Ytfbbbbekialpnaa
open Go.Sort

theorem secLt_irrefl (x : Sec) : ltOf secC x x = false := swoS.irrefl x
theorem secUp_ext : ∀ {l l' : List Sec}, SecUp l → SecUp l' → (∀ x, x ∈ l ↔ x ∈ l') → l = l'
  | [], [], _, _, _ => rfl
  | [], b :: l', _, _, h => by have := (h b).2 (List.mem_cons_self ..); cases this
  | a :: l, [], _, _, h => by have := (h a).1 (List.mem_cons_self ..); cases this
  | a :: l, b :: l', h1, h2, h => by
    unfold SecUp at h1 h2
    rw [List.pairwise_cons] at h1 h2
    have hab : a = b := by
      rcases List.mem_cons.1 ((h a).1 (List.mem_cons_self ..)) with e | e
      · exact e
      · rcases List.mem_cons.1 ((h b).2 (List.mem_cons_self ..)) with e2 | e2
        · exact e2.symm
        · have k1 := h2.1 a e
          have k2 := h1.1 b e2
          have := swoS.trans _ _ _ k1 k2
          rw [secLt_irrefl] at this; cases this
    subst hab
    rw [secUp_ext h1.2 h2.2 fun x => ?_]
    constructor
    · intro hx
      rcases List.mem_cons.1 ((h x).1 (List.mem_cons_of_mem _ hx)) with e | e
      · subst e; have := h1.1 x hx; rw [secLt_irrefl] at this; cases this
      · exact e
    · intro hx
      rcases List.mem_cons.1 ((h x).2 (List.mem_cons_of_mem _ hx)) with e | e
      · subst e; have := h2.1 x hx; rw [secLt_irrefl] at this; cases this
      · exact e
/-- which sectors are loose tells the list. -/
theorem LsIs.uniq {S S' : Dk} {l l' : List Sec} (h : LsIs S l) (h' : LsIs S' l') (e : S.loose = S'.loose) : l = l' := by
  refine secUp_ext h.1 h'.1 fun x => ?_
  obtain ⟨s, p⟩ := x
  constructor
  · intro hx
    have hok := h.2.2 _ hx
    have h1 := (h.2.1 s _ hok).2 ⟨p, hx, rfl⟩
    rw [e] at h1
    obtain ⟨q, hq, e2⟩ := (h'.2.1 s _ hok).1 h1
    have e3 : (p.toNat : Int) = (q.toNat : Int) := e2
    have : p = q := UInt32.toNat_inj.1 (by omega)
    subst this; exact hq
  · intro hx
    have hok := h'.2.2 _ hx
    have h1 := (h'.2.1 s _ hok).2 ⟨p, hx, rfl⟩
    rw [← e] at h1
    obtain ⟨q, hq, e2⟩ := (h.2.1 s _ hok).1 h1
    have e3 : (p.toNat : Int) = (q.toNat : Int) := e2
    have : p = q := UInt32.toNat_inj.1 (by omega)
    subst this; exact hq
/-- with one file all loose sectors are its own. -/
theorem LsIs.name {S : Dk} {ls : List Sec} {n now lasts : List UInt8} {q : Nat} (h : LsIs S ls) (hli : LooseIn S) (h1 : One S n now lasts q) : ∀ x ∈ ls, x.name = n := fun x hx => by
  obtain ⟨s, p⟩ := x
  obtain ⟨f, hf, _⟩ := hli s _ ((h.2.1 s _ (h.2.2 _ hx)).2 ⟨p, hx, rfl⟩)
  have := (find_some hf)
  rw [h1.fs] at this
  obtain ⟨k1, k2⟩ := this
  rw [List.mem_singleton.1 k1] at k2
  exact k2.symm
/-- one of the first k that stay is sector q. -/
def staysB (keep : List Int) (ls : List Sec) (k q : Nat) : Bool := (List.range k).any fun j => (match ls[j]? with | some x => x.page.toNat == q | none => false) && memI keep (j : Int)
theorem staysB_succ {keep : List Int} {ls : List Sec} {k q : Nat} {x : Sec} (hx : ls[k]? = some x) : staysB keep ls (k + 1) q = (staysB keep ls k q || (x.page.toNat == q && memI keep (k : Int))) := by
  unfold staysB
  rw [List.range_succ, List.any_append]
  simp [hx]
theorem staysB_kept {keep : List Int} {ls : List Sec} {n : List UInt8} (h : ∀ x ∈ ls, x.name = n) (k q : Nat) : keptB keep ls k n q = staysB keep ls k q := by
  unfold keptB staysB memI
  congr 1
  funext j
  cases e : ls[j]? with
  | none => simp
  | some x =>
    show (keep.contains (j : Int) && (x.name == n && x.page.toNat == q)) = ((x.page.toNat == q) && keep.contains (j : Int))
    rw [h x (List.mem_of_getElem? e), beq_self_eq_true, Bool.true_and, Bool.and_comm]
/-- the byte that is wanted. -/
def wantB (now first : List UInt8) (keep : List Int) (ls : List Sec) (i : Nat) : UInt8 := if staysB keep ls ls.length (i / 64) = true then now.getD i 0 else if i < first.length then first.getD i 0 else 0
theorem onT_off (S : Dk) (keep : List Int) (ls : List Sec) (k : Nat) : onT S.off keep ls k = onT S keep ls k := by
  induction k with
  | zero => rfl
  | succ k ih =>
    show (match ls[k]? with | some x => onS S.off keep k x (onT S.off keep ls k) | none => onT S.off keep ls k) = (match ls[k]? with | some x => onS S keep k x (onT S keep ls k) | none => onT S keep ls k)
    rw [ih]; rfl
structure TornR (now first : List UInt8) (keep : List Int) (ls : List Sec) (got : List UInt8) : Prop where
  ge : first.length ≤ got.length
  le : got.length ≤ now.length
  at_ : ∀ i, i < got.length → got.getD i 0 = wantB now first keep ls i
  far : ∀ (k : Nat) (x : Sec), ls[k]? = some x → memI keep (k : Int) = true → min (64 * (x.page.toNat + 1)) now.length ≤ got.length
theorem torn_of {S : Dk} {now first : List UInt8} {q : Nat} {ls : List Sec} {keep : List Int} {n : List UInt8} (h1 : One S n now first q) (hli : LooseIn S) (hl : LsIs S ls) (hle : first.length ≤ now.length) : TornR now first keep ls (onT S keep ls ls.length n) := by
  have hls := hl.in_ hli
  have hn := hl.name hli h1
  obtain ⟨g1, g2⟩ := onT_ge hls (keep := keep) ls.length n
  have g3 := onT_le hls (keep := keep) ls.length n (by rw [h1.lastsOf, h1.nowOf]; exact hle)
  rw [h1.lastsOf] at g1
  rw [h1.nowOf] at g3
  refine ⟨g1, g3, fun i hi => ?_, fun k x hx hk => ?_⟩
  · rw [onT_getD hls, h1.nowOf, h1.lastsOf, staysB_kept hn]
    unfold wantB
    by_cases hs : staysB keep ls ls.length (i / 64) = true
    · rw [if_pos ⟨hs, by omega⟩, if_pos hs]
    · rw [if_neg (fun h => hs h.1), if_neg hs]
      split
      · rfl
      · simp only [List.getD_eq_getElem?_getD]
        rw [List.getElem?_eq_none (by omega)]; rfl
  · have hk2 : k < ls.length := by
      rcases Nat.lt_or_ge k ls.length with h | h
      · exact h
      · rw [List.getElem?_eq_none h] at hx; cases hx
    have := g2 k hk2 (by unfold memI at hk; exact hk) x hx (hn x (List.mem_of_getElem? hx))
    rw [h1.nowOf] at this
    unfold secTo at this
    omega
end Go.Proofs.Ytfbbbbekialpnaa
