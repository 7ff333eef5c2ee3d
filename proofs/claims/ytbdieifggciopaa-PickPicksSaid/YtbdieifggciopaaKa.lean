/-
  Pick, plainly: candidates, of each vertex the first one; who comes ahead; who is picked.
-/
import Derived.Test.YtbdieifggciopaaRows
namespace Go.Proofs.Ytbdieifggciopaa
set_option maxRecDepth 100000
set_option maxHeartbeats 400000

structure Dt where
  v : UInt32
  k : UInt64
  near : List UInt32
def hasV (out : List Dt) (v : UInt32) : Bool := out.any fun y => y.v == v
theorem hasV_iff (out : List Dt) (v : UInt32) : hasV out v = true ↔ ∃ y ∈ out, y.v = v := by simp [hasV]
theorem hasV_not {out : List Dt} {v : UInt32} (h : hasV out v = false) : ∀ y ∈ out, y.v ≠ v := fun y hy e => by
  have := (hasV_iff out v).2 ⟨y, hy, e⟩
  rw [h] at this; cases this
/-- the candidates, of each vertex the first one. -/
def putD (out : List Dt) (x : Dt) : List Dt := if hasV out x.v then out else out ++ [x]
def onceD (l : List Dt) : List Dt := l.foldl putD []
/-- one of a vertex at most. -/
def UniD (l : List Dt) : Prop := l.Pairwise fun a b => a.v ≠ b.v
theorem UniD.put {l : List Dt} (h : UniD l) (x : Dt) : UniD (putD l x) := by
  unfold putD
  cases hv : hasV l x.v with
  | true => exact h
  | false =>
    refine List.pairwise_append.2 ⟨h, List.pairwise_singleton _ _, fun a ha b hb => ?_⟩
    rw [List.mem_singleton.1 hb]
    exact hasV_not hv a ha
theorem uni_fold {b : List Dt} (h : UniD b) (l : List Dt) : UniD (l.foldl putD b) := by
  induction l generalizing b with
  | nil => exact h
  | cons x r ih => exact ih (h.put x)
theorem onceD_uni (l : List Dt) : UniD (onceD l) := uni_fold List.Pairwise.nil l
theorem UniD.eq {l : List Dt} (h : UniD l) {x y : Dt} (hx : x ∈ l) (hy : y ∈ l) (e : x.v = y.v) : x = y := by
  induction l with
  | nil => cases hx
  | cons a r ih =>
    have h' := List.pairwise_cons.1 h
    rcases List.mem_cons.1 hx with e1 | hx2
    · rcases List.mem_cons.1 hy with e2 | hy2
      · rw [e1, e2]
      · rw [e1] at e; exact absurd e (h'.1 y hy2)
    · rcases List.mem_cons.1 hy with e2 | hy2
      · rw [e2] at e; exact absurd e.symm (h'.1 x hx2)
      · exact ih h'.2 hx2 hy2
theorem fold_mem {b : List Dt} (l : List Dt) {x : Dt} (h : x ∈ l.foldl putD b) : x ∈ b ∨ x ∈ l := by
  induction l generalizing b with
  | nil => exact .inl h
  | cons y r ih =>
    rcases ih h with h | h
    · unfold putD at h
      split at h
      · exact .inl h
      · rcases List.mem_append.1 h with h | h
        · exact .inl h
        · rw [List.mem_singleton.1 h]; exact .inr (by simp)
    · exact .inr (by simp [h])
theorem onceD_sub {l : List Dt} {x : Dt} (h : x ∈ onceD l) : x ∈ l := (fold_mem l h).resolve_left (by simp)
theorem putD_keep {b : List Dt} {x y : Dt} (h : y ∈ b) : y ∈ putD b x := by
  unfold putD; split
  · exact h
  · exact List.mem_append_left _ h
theorem fold_keep {b : List Dt} (l : List Dt) {y : Dt} (h : y ∈ b) : y ∈ l.foldl putD b := by
  induction l generalizing b with
  | nil => exact h
  | cons x r ih => exact ih (putD_keep h)
theorem fold_has {b : List Dt} (l : List Dt) {x : Dt} (h : x ∈ l) : ∃ y ∈ l.foldl putD b, y.v = x.v := by
  induction l generalizing b with
  | nil => cases h
  | cons z r ih =>
    rcases List.mem_cons.1 h with rfl | h
    · by_cases hv : hasV b x.v = true
      · obtain ⟨y, hy, e⟩ := (hasV_iff b x.v).1 hv
        exact ⟨y, fold_keep r (putD_keep hy), e⟩
      · exact ⟨x, fold_keep r (by unfold putD; rw [if_neg hv]; simp), rfl⟩
    · exact ih h
theorem onceD_has {l : List Dt} {x : Dt} (h : x ∈ l) : ∃ y ∈ onceD l, y.v = x.v := fold_has l h
theorem putD_len (b : List Dt) (x : Dt) : (putD b x).length ≤ b.length + 1 := by unfold putD; split <;> simp
theorem onceD_take {l : List Dt} {k : Nat} (hk : k < l.length) : onceD (l.take (k + 1)) = putD (onceD (l.take k)) l[k] := by
  unfold onceD
  rw [List.take_succ_eq_append_getElem hk, List.foldl_append]; rfl
theorem onceD_len (l : List Dt) : (onceD l).length ≤ l.length := by
  have : ∀ (r b : List Dt), (r.foldl putD b).length ≤ b.length + r.length := by
    intro r
    induction r with
    | nil => intro b; simp
    | cons x r ih =>
      intro b
      have h1 := ih (putD b x)
      have h2 := putD_len b x
      simp only [List.foldl_cons, List.length_cons]
      omega
  have h := this l []
  show (l.foldl putD []).length ≤ _
  simpa using h
/-- once more nothing goes. -/
theorem fold_uni {b l : List Dt} (h : UniD (b ++ l)) : l.foldl putD b = b ++ l := by
  induction l generalizing b with
  | nil => simp
  | cons x r ih =>
    have hx : hasV b x.v = false := by
      rw [Bool.eq_false_iff]
      intro hv
      obtain ⟨y, hy, e⟩ := (hasV_iff b x.v).1 hv
      exact (List.pairwise_append.1 h).2.2 y hy x (by simp) e
    have e1 : putD b x = b ++ [x] := by unfold putD; rw [hx]; rfl
    rw [List.foldl_cons, e1, ih (by simpa using h)]
    simp
theorem onceD_uniq {l : List Dt} (h : UniD l) : onceD l = l := by
  have := fold_uni (b := []) (l := l) (by simpa using h)
  show l.foldl putD [] = l
  simpa using this
/-! who comes ahead -/
def aheadD (x y : Dt) : Prop := x.k.toNat < y.k.toNat ∨ x.k.toNat = y.k.toNat ∧ x.v.toNat < y.v.toNat
instance (x y : Dt) : Decidable (aheadD x y) := by unfold aheadD; exact inferInstance
theorem aheadD_not {x y : Dt} (h : ¬ aheadD x y) (hv : x.v ≠ y.v) : aheadD y x := by
  unfold aheadD at *
  have : x.v.toNat ≠ y.v.toNat := fun e => hv (UInt32.toNat_inj.1 e)
  omega
theorem aheadD_asym {x y : Dt} (h : aheadD x y) : ¬ aheadD y x := by unfold aheadD at *; omega
theorem aheadD_trans {x y z : Dt} (h : aheadD x y) (h' : aheadD y z) : aheadD x z := by unfold aheadD at *; omega
def nearD (x y : Dt) : Prop := y.v ∈ x.near ∨ x.v ∈ y.near
theorem nearD_symm {x y : Dt} (h : nearD x y) : nearD y x := h.symm
/-- one that is near comes ahead. -/
def lateD (all : List Dt) (x : Dt) : Prop := ∃ y ∈ all, y.v ≠ x.v ∧ nearD x y ∧ aheadD y x
def RisS (l : List UInt32) : Prop := l.Pairwise fun a b => a.toNat < b.toNat
def PickOf (all : List Dt) (out : List UInt32) : Prop := RisS out ∧ ∀ v, v ∈ out ↔ ∃ x ∈ all, x.v = v ∧ ¬ lateD all x
theorem RisS.same : ∀ {l m : List UInt32}, RisS l → RisS m → (∀ x, x ∈ l ↔ x ∈ m) → l = m
  | [], [], _, _, _ => rfl
  | [], y :: s, _, _, h => by have := (h y).2 (by simp); cases this
  | x :: r, [], _, _, h => by have := (h x).1 (by simp); cases this
  | x :: r, y :: s, hl, hm, h => by
    have hl' := List.pairwise_cons.1 hl
    have hm' := List.pairwise_cons.1 hm
    have hxy : x = y := by
      rcases List.mem_cons.1 ((h x).1 (by simp)) with e | h1
      · exact e
      · rcases List.mem_cons.1 ((h y).2 (by simp)) with e | h2
        · exact e.symm
        · have := hm'.1 x h1
          have := hl'.1 y h2
          omega
    subst hxy
    congr 1
    refine RisS.same hl'.2 hm'.2 fun z => ⟨fun hz => ?_, fun hz => ?_⟩
    · rcases List.mem_cons.1 ((h z).1 (by simp [hz])) with e | h1
      · subst e; have := hl'.1 z hz; omega
      · exact h1
    · rcases List.mem_cons.1 ((h z).2 (by simp [hz])) with e | h1
      · subst e; have := hm'.1 z hz; omega
      · exact h1
theorem PickOf.same {all : List Dt} {a b : List UInt32} (h : PickOf all a) (h' : PickOf all b) : a = b := h.1.same h'.1 fun x => (h.2 x).trans (h'.2 x).symm
theorem lateD_congr {all all' : List Dt} (h : ∀ x, x ∈ all ↔ x ∈ all') (x : Dt) : lateD all x ↔ lateD all' x := by
  unfold lateD
  simp only [h]
theorem PickOf.congr {all all' : List Dt} {a : List UInt32} (h : PickOf all a) (he : ∀ x, x ∈ all ↔ x ∈ all') : PickOf all' a := by
  refine ⟨h.1, fun v => ?_⟩
  rw [h.2]
  simp only [he, lateD_congr he]
theorem PickOf.len {all : List Dt} {a : List UInt32} (h : PickOf all a) : a.length ≤ all.length := by
  have hn : a.Nodup := h.1.imp fun h e => by subst e; omega
  have hs : ∀ v ∈ a, v ∈ all.map Dt.v := fun v hv => by
    obtain ⟨x, hx, e, _⟩ := (h.2 v).1 hv
    exact List.mem_map.2 ⟨x, hx, e⟩
  have := hn.length_le_of_subset hs
  simpa using this
/-- of candidates one at least is picked. -/
theorem first_of : ∀ (all : List Dt), all ≠ [] → ∃ x ∈ all, ∀ y ∈ all, ¬ aheadD y x
  | [], h => absurd rfl h
  | [x], _ => ⟨x, by simp, fun y hy => by
      rw [List.mem_singleton.1 hy]; unfold aheadD; omega⟩
  | x :: z :: r, _ => by
    obtain ⟨m, hm, h⟩ := first_of (z :: r) (by simp)
    by_cases ha : aheadD x m
    · refine ⟨x, by simp, fun y hy => ?_⟩
      rcases List.mem_cons.1 hy with rfl | hy
      · unfold aheadD; omega
      · exact fun hc => h y hy (aheadD_trans hc ha)
    · refine ⟨m, by simp [hm], fun y hy => ?_⟩
      rcases List.mem_cons.1 hy with rfl | hy
      · exact ha
      · exact h y hy
theorem PickOf.some_ {all : List Dt} {a : List UInt32} (h : PickOf all a) (hn : all ≠ []) : a ≠ [] := by
  obtain ⟨x, hx, hf⟩ := first_of all hn
  intro e
  have := (h.2 x.v).2 ⟨x, hx, rfl, fun ⟨y, hy, _, _, ha⟩ => hf y hy ha⟩
  rw [e] at this; cases this
end Go.Proofs.Ytbdieifggciopaa
