/-
  PoolBack: a page of the list is another one.
-/
import Derived.Test.YtkpmadahfmpeiaaGreatQb2
import Derived.Test.YtkpmadahfmpeiaaGreatQk1
import Derived.Laws.IdiomStrings
import Derived.Lib.BufferRead
namespace Go.Proofs.YtkpmadahfmpeiaaGreat
open Go.RowKit Go.Maps
set_option maxRecDepth 100000
set_option maxHeartbeats 400000

section
variable {w wb w7 : World} {w0 : World} {O : Own1}
theorem PgV.one {L : List (Value × List UInt8)} (h : ∀ y ∈ L, RdB w0 y.1 y.2) : ∀ y ∈ L, y.1.oneCell' = true := fun y hy => by
  obtain ⟨A, c, e⟩ := RdB.form (h y hy)
  rw [e]; rfl
theorem gr_any {w w1 w2 : World} {r : Option Nat} (h : w.grownBy w1 none) (k : w1.grownBy w2 r) : w.grownBy w2 r :=
  ⟨k.os.trans h.os, k.tape.trans h.tape, k.output.trans h.output, Nat.le_trans h.size k.size, fun i hi hr => (k.block i (Nat.lt_of_lt_of_le hi h.size) hr).trans (h.block i hi (fun e => by cases e))⟩
/-- append([][]byte{}, pages...). -/
theorem wp_copyV {ops : Array Oper} {rest : List Oper} {o : Oper} {a : Act} {Q : Exit → Act → World → Prop} {B : Nat} {L : List (Value × List UInt8)} {A : Option Addr} {c : Nat} (hr : Rd w 1 (.slice A L.length c) L.length (L.map Prod.fst)) (h1 : ∀ y ∈ L, RdB w0 y.1 y.2) (hgd : o.guard = none) (s0 x0 : Operand)
    (ho : o.op = .call { callee := .builtin .append, args := #[s0, x0], argTypes := #[41, 41] }) (g : Nat) (hs : a.eval s0 = .slice (some ⟨g, 0, none⟩) 0 0) (hg : g = w.heap.size) (hx : a.eval x0 = .slice A L.length c) (hB : B ≤ w.heap.size) (hn : L.length ≤ 1000000)
    (k : ∀ A7 c7 w7, PgV w7 B (.slice A7 L.length c7) L → w.grownBy w7 none → (∀ q, (Value.slice A7 L.length c7).ownBlock = some q → w.heap.size ≤ q) → wpList Tryz.prog ops Q rest (a.put o.dst (.slice A7 L.length c7)) w7) :
    wpList Tryz.prog ops Q (o :: rest) a (w.alloc (.cells #[] 33)) := by
  subst hg
  refine wp_appV (L := []) (M := L) hgd s0 x0 ho hs (own_emptyV _ _ hB) hx (hr.ext (gr_alloc _ _ none)) (PgV.one h1) (by simp; omega) (by rw [World.size_alloc]; omega) fun v7 w7 ho7 ha7 => ?_
  have ho7' : PgV w7 B v7 L := ho7
  obtain ⟨_, A7, c7, _, _, ev, _⟩ := id ho7'
  subst ev
  exact k A7 c7 w7 ho7' (ha7.gr (gr_alloc _ _ none) fun q e => by cases e; exact Nat.le_refl _) fun q e => by
    rcases ha7 with ⟨A, c, e1, e2, -⟩ | ⟨k, e1, hk, -⟩
    · have hA : A7 = some ⟨w.heap.size, 0, none⟩ := by
        injection e1 with a1
        injection e2 with a2
        rw [a2, ← a1]
      subst hA
      cases e
      exact Nat.le_refl _
    · rw [e1] at e
      cases e
      rw [World.size_alloc] at hk; omega
/-- append(pages, nil). -/
theorem wp_nilV {ops : Array Oper} {rest : List Oper} {o : Oper} {a : Act} {Q : Exit → Act → World → Prop} {B : Nat} {L : List (Value × List UInt8)} {A : Option Addr} {c : Nat} (hp : PgV w B (.slice A L.length c) L) (g0 : wb.grownBy w none) (hv : ∀ q, (Value.slice A L.length c).ownBlock = some q → wb.heap.size ≤ q) (hgd : o.guard = none) (s0 x0 : Operand)
    (ho : o.op = .call { callee := .builtin .append, args := #[s0, x0], argTypes := #[41, 41] }) (g : Nat) (hs : a.eval s0 = .slice A L.length c) (hx : a.eval x0 = .slice (some ⟨g, 0, none⟩) 1 1) (hg : g = w.heap.size) (hB : B ≤ w.heap.size) (hn : L.length ≤ 1000000)
    (k : ∀ A7 c7 w7, PgV w7 B (.slice A7 (L.length + 1) c7) (L ++ [(.slice none 0 0, [])]) → wb.grownBy w7 none → (∀ q, (Value.slice A7 (L.length + 1) c7).ownBlock = some q → wb.heap.size ≤ q) → wpList Tryz.prog ops Q rest (a.put o.dst (.slice A7 (L.length + 1) c7)) w7) :
    wpList Tryz.prog ops Q (o :: rest) a (w.alloc (.cells #[.slice none 0 0] 33)) := by
  subst hg
  refine wp_appV (L := L) (M := [(.slice none 0 0, [])]) hgd s0 x0 ho hs (Own.ext hp (gr_alloc _ _ none)) hx (rd_lit w 1 1 1 #[.slice none 0 0] 33 (by simp) (Nat.le_refl _) (by unfold maxLen; omega)) (fun y hy => by rw [List.mem_singleton.1 hy]; rfl) (by simp; omega) (by rw [World.size_alloc]; omega) fun v7 w7 ho7 ha7 => ?_
  obtain ⟨_, A7, c7, _, _, ev, _⟩ := id ho7
  rw [List.length_append, List.length_singleton] at ev
  subst ev
  refine k A7 c7 w7 ho7 (ha7.gr (gr_none g0 (gr_alloc _ _ none)) hv) fun q e => ?_
  rcases ha7 with ⟨A', c', e1, e2, -⟩ | ⟨k, e1, hk, -⟩
  · have hA : A7 = A := by
      injection e1 with a1
      injection e2 with a2
      rw [a2, ← a1]
    subst hA
    exact hv q (by cases A7 with | none => cases e | some x => exact e)
  · rw [e1] at e
    cases e
    rw [World.size_alloc] at hk
    have := g0.size
    omega
/-- the stores l[j].pages = pages, behind pages[K] = b. -/
theorem BkL.store {l : List Bk} {A A7 : Option Addr} {c c7 n7 j K : Nat} {L : List (Value × List UInt8)} {bv : Value} {b pn : List UInt8} (hb : BkL w0 wb O (.slice A l.length c) l) (hj : j < l.length) (hpn : l[j].n = pn) (hf : ∀ i, wb.heap.size ≤ i → O i = none) (hp : PgV w7 w0.heap.size (.slice A7 n7 c7) L) (g7 : wb.grownBy w7 none) (hv7 : ∀ q, (Value.slice A7 n7 c7).ownBlock = some q → wb.heap.size ≤ q) (hK : K < n7) (hbv : RdB w0 bv b) (hL : ∀ y ∈ L, RdB w0 y.1 y.2) :
    ∃ gp offp gl offl, A7 = some ⟨gp, offp, none⟩ ∧ A = some ⟨gl, offl, none⟩ ∧ n7 ≤ c7 ∧ l.length ≤ c ∧ gp ≠ gl ∧ w7.frozen? ⟨gp, offp + K, none⟩ = false ∧ (∃ u, w7.cell? ⟨gp, offp + K, none⟩ = some u) ∧ w7.frozen? ⟨gl, offl + j * 2 + 1, none⟩ = false ∧ (∃ u, w7.cell? ⟨gl, offl + j * 2 + 1, none⟩ = some u) ∧
      BkL w0 ((w7.setCell ⟨gp, offp + K, none⟩ bv).setCell ⟨gl, offl + j * 2 + 1, none⟩ (.slice A7 n7 c7)) O (.slice A l.length c) (l.set j ⟨pn, .slice A7 n7 c7, L.set K (bv, b)⟩) ∧
      wb.grownBy ((w7.setCell ⟨gp, offp + K, none⟩ bv).setCell ⟨gl, offl + j * 2 + 1, none⟩ (.slice A7 n7 c7)) (some gl) ∧ O gl = none ∧ w0.heap.size ≤ gl := by
  subst hpn
  have hlen : n7 = L.length := by
    obtain ⟨_, A', c', g, off, e, _⟩ := id hp
    cases e; rfl
  subst hlen
  obtain ⟨hl, A', c', gp, offp, e, hn, hc, hA0, hA, hB, hx, hfz⟩ := id hp
  cases e
  obtain rfl := hA (by omega)
  have hgp : wb.heap.size ≤ gp := hv7 gp rfl
  obtain ⟨gl, offl, rfl, hcl, hl1, hl2, hl3, -, -, -⟩ := hb.put hj
  have hne : gp ≠ gl := by omega
  have hfr := hfz K (by omega)
  have hgs := gr_setCell w7 ⟨gp, offp + K, none⟩ bv
  have hgw : wb.grownBy (w7.setCell ⟨gp, offp + K, none⟩ bv) none := gr_trans g7 hgs (.inr fun q e => by cases e; exact hgp)
  obtain ⟨gl', offl', e', -, -, -, -, hz1, hz2, hput⟩ := (hb.ext hgw).put hj
  cases e'
  obtain ⟨gl'', offl'', e'', -, -, -, -, hy1, hy2, -⟩ := (hb.ext g7).put hj
  cases e''
  have hpr : Rd (w7.setCell ⟨gp, offp + K, none⟩ bv) 1 (.slice (some ⟨gp, offp, none⟩) L.length c7) (L.set K (bv, b)).length ((L.set K (bv, b)).map Prod.fst) := by
    have h9 := (Own.set (A := some ⟨gp, offp, none⟩) rfl hp (j := K) (by omega) bv).rd
    rw [List.length_set, List.map_set]
    exact h9
  have hbo : BkOk w0 (w7.setCell ⟨gp, offp + K, none⟩ bv) O (.slice (some ⟨gl, offl, none⟩) l.length c) ⟨l[j].n, .slice (some ⟨gp, offp, none⟩) L.length c7, L.set K (bv, b)⟩ := by
    refine ⟨hpr, fun q e => ?_, fun y hy => ?_⟩
    · have hq : q = gp := by
        have e2 : (if c7 = 0 then none else some gp) = some q := e
        rw [if_neg (by omega)] at e2
        exact (Option.some.inj e2).symm
      subst hq
      refine ⟨Nat.lt_of_lt_of_le ?_ hgs.size, hf q hgp, fun e2 => ?_⟩
      · obtain ⟨u, hu⟩ := Option.isSome_iff_exists.1 hfr.1
        exact World.block_lt_of_cell? w7 _ hu
      · have e3 : (if c = 0 then none else some gl) = some q := e2
        rw [if_neg (by omega)] at e3
        exact hne (Option.some.inj e3).symm
    · rcases List.mem_or_eq_of_mem_set hy with hy | hy
      · exact hL y hy
      · rw [hy]; exact hbv
  have hfin := hput _ _ hbo
  rw [List.length_set] at hfin
  exact ⟨gp, offp, gl, offl, rfl, rfl, hn, hcl, hne, hfr.2, Option.isSome_iff_exists.1 hfr.1, hy1, hy2, hfin, gr_any hgw (gr_setCell _ _ _), hl3, hl1⟩
/-- what stands at a place of the list. -/
theorem BkL.cells {l : List Bk} {A : Option Addr} {c i : Nat} (h : BkL w0 w O (.slice A l.length c) l) (hi : i < l.length) : ∃ gl offl Ap cp, A = some ⟨gl, offl, none⟩ ∧ l.length ≤ c ∧ w.cell? ⟨gl, offl + i * 2, none⟩ = some (.string ⟨l[i].n.toArray⟩) ∧ w.cell? ⟨gl, offl + i * 2 + 1, none⟩ = some (.slice Ap l[i].L.length cp) ∧ Rd w 1 (.slice Ap l[i].L.length cp) l[i].L.length (l[i].L.map Prod.fst) := by
  obtain ⟨gl, offl, hA, hc, hx⟩ := RdG.at_ bk2 (OwnG.rd h.own)
  have h0 := hx i hi 0 (by omega)
  have h1 := hx i hi 1 (by omega)
  have hr := (h.ok l[i] (List.getElem_mem hi)).rd
  obtain ⟨Ap, cp, e⟩ : ∃ Ap cp, l[i].s = .slice Ap l[i].L.length cp := by obtain ⟨_, A, c, _, _, e, _⟩ := hr; exact ⟨A, c, e⟩
  have h1' : w.cell? ⟨gl, offl + i * 2 + 1, none⟩ = some l[i].s := h1
  rw [e] at hr h1'
  exact ⟨gl, offl, Ap, cp, hA (by omega), hc, h0, h1', hr⟩
theorem read_at {l : List Bk} {n : List UInt8} {i K : Nat} (hw : Wf (l.map Bk.fz)) (hi : i < l.length) (hn : l[i].n = n) (hK : K < l[i].L.length) : aRead (l.map Bk.fz) n (K : Int) = (l[i].L[K].2, 0) := by
  obtain ⟨h0, hp, -⟩ := ix_has hw hi hn
  unfold aRead
  rw [if_neg (by simpa using h0), if_neg (by omega), hp, List.length_map, if_neg (by omega), List.getD_eq_getElem?_getD, List.getElem?_map, Int.toNat_natCast, List.getElem?_eq_getElem hK]
  rfl
theorem sum_mem {l : List Bk} {j : Nat} (hj : j < l.length) : l[j].L.length ≤ sumF (l.map Bk.fz) := by
  have h1 := sumF_step (F := l.map Bk.fz) (i := j) (by rw [List.length_map]; exact hj)
  have h2 := sumF_le (l.map Bk.fz) (j + 1)
  rw [List.getElem_map] at h1
  have h3 : (l[j].fz).pages.length = l[j].L.length := by show (l[j].L.map Prod.snd).length = _; rw [List.length_map]
  omega
theorem setP_set {L : List (Value × List UInt8)} {K : Nat} (h : K < L.length) (v : Value) (b : List UInt8) : (L.set K (v, b)).map Prod.snd = setP (L.map Prod.snd) K b := by
  unfold setP
  rw [if_pos (by rw [List.length_map]; exact h), List.map_set]
theorem setP_app (L : List (Value × List UInt8)) (x : Value × List UInt8) (v : Value) (b : List UInt8) : ((L ++ [x]).set L.length (v, b)).map Prod.snd = setP (L.map Prod.snd) L.length b := by
  unfold setP
  rw [if_neg (by rw [List.length_map]; omega), List.set_append_right _ _ (Nat.le_refl _), Nat.sub_self, List.map_append]
  rfl
end
end Go.Proofs.YtkpmadahfmpeiaaGreat

/- PoolFlushes: what a Drop leaves of the files, plain. -/
namespace Go.Proofs.YtkpmadahfmpeiaaGreat
set_option maxRecDepth 100000

theorem sortN_filter (p : List UInt8 → Bool) (l : List (List UInt8)) : sortN (l.filter p) = (sortN l).filter p :=
  List.Perm.eq_of_pairwise (le := fun x y => x ≤ y) (fun _ _ _ _ h1 h2 => List.le_antisymm h1 h2) (sortN_up _) ((sortN_up l).filter p) ((sortN_prm _).trans ((sortN_prm l).filter p).symm)
def notB (g : List UInt8) (s : List UInt8) : Bool := !(s == g)
theorem namesF_filter (F : List Fz) (g : List UInt8) : namesF (F.filter fun x => !(x.name == g)) = (namesF F).filter (notB g) := by
  unfold namesF
  rw [List.filter_map]; rfl
theorem fg_filter (F : List Fz) {g n : List UInt8} (h : n ≠ g) : Fg (F.filter fun x => !(x.name == g)) n = Fg F n := by
  unfold Fg
  induction F with
  | nil => rfl
  | cons a l ih =>
    rw [List.filter_cons]
    by_cases ha : a.name = g
    · rw [if_neg (by simp [ha]), ih, List.find?_cons, show (a.name == n) = false from by rw [ha]; simpa using fun e => h e.symm]
    · rw [if_pos (by simpa using ha), List.find?_cons, List.find?_cons]
      cases (a.name == n) with
      | true => rfl
      | false => exact ih
theorem drop_names {F : List Fz} {g : List UInt8} (hok : ∀ n ∈ namesF F, aErr F n = 0) : namesF (aDrop F g).1 = (namesF F).filter (notB g) := by
  unfold aDrop
  by_cases he : aErr F g = 0
  · rw [if_neg (by simpa using he)]
    exact namesF_filter F g
  · rw [if_pos he]
    rw [List.filter_eq_self.2]
    intro n hn
    unfold notB
    have : n ≠ g := fun e => he (e ▸ hok n hn)
    simpa using this
theorem drop_pg {F : List Fz} {g n : List UInt8} (h : n ≠ g) : aPg (aDrop F g).1 n = aPg F n := by
  unfold aDrop
  split
  · rfl
  · show aPg (F.filter fun x => !(x.name == g)) n = aPg F n
    unfold aPg
    rw [fg_filter F h]
theorem drop_gone {F : List Fz} (g : List UInt8) : aErr (aDrop F g).1 g ≠ 0 := by
  unfold aDrop
  by_cases he : aErr F g = 0
  · rw [if_neg (by simpa using he)]
    show aErr (F.filter fun x => !(x.name == g)) g ≠ 0
    unfold aErr
    split
    · simp
    · have : Fg (F.filter fun x => !(x.name == g)) g = none := by
        unfold Fg
        rw [List.find?_eq_none.2]
        · rfl
        · intro x hx
          have := (List.mem_filter.1 hx).2
          simpa using this
      rw [this]; simp
  · rw [if_pos he]; exact he
/-- where an element of a filtered list stands. -/
theorem filter_at {α : Type} (p : α → Bool) : ∀ (l : List α) (i : Nat) (h : i < l.length), p l[i] = true → (l.filter p)[((l.take i).filter p).length]? = some l[i]
  | a :: l, 0, _, hp => by
    have hp' : p a = true := hp
    simp [hp']
  | a :: l, i + 1, h, hp => by
    have ih := filter_at p l i (by simpa using h) hp
    rw [List.take_succ_cons, List.filter_cons, List.filter_cons]
    split
    · rw [List.length_cons, List.getElem?_cons_succ]; exact ih
    · exact ih
theorem filter_step {α : Type} (p : α → Bool) (l : List α) {i : Nat} (h : i < l.length) : ((l.take (i + 1)).filter p).length = ((l.take i).filter p).length + (if p l[i] = true then 1 else 0) := by
  rw [List.take_succ_eq_append_getElem h, List.filter_append, List.length_append]
  congr 1
  rw [List.filter_cons]
  split <;> simp
end Go.Proofs.YtkpmadahfmpeiaaGreat

/- A string of bytes in memory. -/
namespace Go.Proofs.YtkpmadahfmpeiaaGreat
open Go.RowKit Go.Maps
set_option maxRecDepth 100000

theorem str_any {w : World} {A : Option Addr} {c : Nat} {b : List UInt8} (h : RdB w (.slice A b.length c) b) : (convert 33 9 (.slice A b.length c)).run Tryz.prog w = .ok (.string ⟨b.toArray⟩) w := by
  obtain ⟨g, off, hA, hcap, hmx, hcells⟩ := RdB.at_ h
  cases A with
  | none =>
    have h0 : b.length = 0 := by
      rcases Nat.eq_zero_or_pos b.length with h9 | h9
      · exact h9
      · exact absurd (hA h9) (by simp)
    obtain rfl := List.eq_nil_of_length_eq_zero h0
    exact Lib.run_convert_nil_bytes w _ _ _ c Tryz.underlying33 Tryz.underlying5 Tryz.underlying9
  | some a =>
    refine run_convert_bytes_back w _ _ _ a c b Tryz.underlying33 Tryz.underlying5 Tryz.underlying9 fun j hj => ?_
    have := hA (by omega)
    cases this
    rw [Addr.add_lit]
    exact hcells j hj
end Go.Proofs.YtkpmadahfmpeiaaGreat
