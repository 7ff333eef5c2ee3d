/-
  append, with what it says of the slice that it was given.
-/
import Derived.Test.YtkfokgjpeaibpaaB
namespace Go.Proofs.Ytkfokgjpeaibpaa
open Go.RowKit
section
variable {P : Program} (w : World)
theorem run_appS (B : Nat) (t ty e : TypeId) (z : Value) (s bytes : Nat) (ht : P.underlying t = some (.slice e)) (hinfo : (P.info? e).map (fun i => (i.zero, i.size, i.bytes)) = some (some z, s, bytes))
    (hzs : z.cells.size = s) (hsz : 0 < s) (v : Value) (n : Nat) (xs : List Value) (hown : Own w B s v n xs)
    (x : Value) (m : Nat) (news : List Value) (hr : Rd w s x m news) (h1 : ∀ u ∈ news, u.oneCell' = true)
    (h63 : n + m ≤ maxLen) (hbytes : (n + m) * bytes ≤ 140737488355328) (hB : B ≤ w.heap.size) :
    ∃ v' w', (Builtin.append_ #[t, t] ty #[v, x]).run P w = .ok v' w' ∧ Own w' B s v' (n + m) (xs ++ news) ∧
      ((∃ A c, v = .slice A n c ∧ v' = .slice A (n + m) c ∧ w.grownBy w' v.ownBlock) ∨ ∃ k, v'.ownBlock = some k ∧ w.heap.size ≤ k ∧ w.grownBy w' none) := by
  obtain ⟨i, hi, hz, hsize, hby⟩ := info_parts hinfo
  have hown0 := hown
  obtain ⟨hl, A, c, g, off, rfl, hn, hc, hA0, hA, hb, hx, hf⟩ := hown
  obtain ⟨hl2, A2, c2, g2, off2, rfl, hn2, hc2, hA02, hA2, hx2⟩ := hr
  rcases Nat.eq_zero_or_pos m with hm | hm
  · subst hm
    have hnil : news = [] := List.eq_nil_of_length_eq_zero (by simpa using hl2)
    subst hnil
    exact ⟨_, w, run_app_zero w t ty e i ht hi A A2 n c c2 hn, by simpa using hown0, .inl ⟨_, _, rfl, rfl, gr_refl w _⟩⟩
  · have hA2' := hA2 (by omega)
    subst hA2'
    have hnews : ∀ j u, news[j]? = some u → w.cell? ((⟨g2, off2, none⟩ : Addr).add j) = some u := by
      intro j u hu
      have hj : j < news.length := (List.getElem?_eq_some_iff.1 hu).1
      rw [Addr.add_lit, hx2 j (by omega), hu]
    by_cases hroom : n + m ≤ c
    · have hA' := hA (by omega)
      subst hA'
      subst hsize
      have hcs : n * i.size + news.length ≤ c * i.size := by rw [hl2, ← Nat.add_mul]; exact Nat.mul_le_mul_right _ hroom
      have hrun := run_append_room_cells (P := P) w t ty e i ht hi g off n c ⟨g2, off2, none⟩ m c2 news hl2 hnews h1 hroom
        (fun j hj => by rw [Nat.add_assoc]; exact (hf _ (by omega)).1) (fun j hj => by rw [Nat.add_assoc]; exact (hf _ (by omega)).2)
      have hin := World.cell?_setCells_in g news (off + n * i.size) w (fun j hj => by rw [Nat.add_assoc]; exact (hf _ (by omega)).1)
      have hout : ∀ j, (j < n * i.size ∨ n * i.size + news.length ≤ j) → (w.setCells g (off + n * i.size) news).cell? ⟨g, off + j, none⟩ = w.cell? ⟨g, off + j, none⟩ := fun j hj =>
        World.cell?_setCells_out g news _ w _ (fun _ _ => by simp; omega)
      refine ⟨_, _, hrun, ⟨by rw [List.length_append, hl, hl2, Nat.add_mul], _, c, g, off, rfl, hroom, hc, hA0, hA, hb, fun j hj => ?_, fun j hj => ?_⟩, .inl ⟨_, _, rfl, rfl, gr_setCells g _ _ _⟩⟩
      · by_cases hjn : j < n * i.size
        · rw [hout j (.inl hjn), hx j hjn, List.getElem?_append_left (by omega)]
        · have hjm : j - n * i.size < news.length := by rw [Nat.add_mul, ← hl2] at hj; omega
          have := hin (j - n * i.size) hjm
          rw [show off + n * i.size + (j - n * i.size) = off + j from by omega] at this
          rw [this, List.getElem?_append_right (by omega), hl, List.getElem?_eq_getElem hjm]
      · refine ⟨?_, by rw [World.frozen?_setCells]; exact (hf j hj).2⟩
        by_cases hjn : j < n * i.size ∨ n * i.size + news.length ≤ j
        · rw [hout j hjn]; exact (hf j hj).1
        · have := hin (j - n * i.size) (by omega)
          rw [show off + n * i.size + (j - n * i.size) = off + j from by omega] at this
          rw [this]; rfl
    · have grows : ∃ v' w', (Builtin.append_ #[t, t] ty #[.slice A n c, .slice (some ⟨g2, off2, none⟩) m c2]).run P w = .ok v' w' ∧ w'.ownsRow w.heap.size e s v' (n + m) (xs ++ news) ∧ w.grownBy w' none := by
        cases A with
        | none =>
          have hc0 := hA0 rfl
          obtain rfl : n = 0 := by omega
          subst hc0
          obtain rfl : xs = [] := List.eq_nil_of_length_eq_zero (by simpa using hl)
          obtain ⟨v', w', hrun, r1, r2, _⟩ := run_append_own (P := P) w w.heap.size t ty e i z s bytes ht hi hz hsize hby hzs hsz (.slice none 0 0) 0 [] (World.ownsRow_nil w _ e s) _ m c2 news hl2 hnews h1 h63 hbytes (Nat.le_refl _)
          exact ⟨v', w', hrun, r1, r2⟩
        | some a =>
          refine run_append_arg_grows (P := P) w t ty e i z s bytes ht hi hz hsize hby hzs hsz a n c xs hl (fun j u hj => ?_) _ m c2 news hl2 hnews (by omega) h63 hbytes
          have hjl : j < xs.length := (List.getElem?_eq_some_iff.1 hj).1
          have h0 := pos_of_lt (show j < n * s by omega)
          have := hA (by omega)
          cases this
          rw [Addr.add_lit, hx j (by omega), hj]
      obtain ⟨v', w', hrun, r1, r2⟩ := grows
      refine ⟨v', w', hrun, (Own.of_row r1).mono hB, ?_⟩
      rcases r1.2 with ⟨_, h0⟩ | ⟨g', cap', cur', e', hg', _⟩
      · omega
      · exact .inr ⟨g', by rw [e']; rfl, hg', r2⟩

/-- append(v, x...) in a plain region. -/
theorem wp_appS {ops : Array Oper} {rest : List Oper} {o : Oper} {a : Act} {Q : Exit → Act → World → Prop} (hgd : o.guard = none) (s0 x0 : Operand) (t : TypeId)
    (ho : o.op = .call { callee := .builtin .append, args := #[s0, x0], argTypes := #[t, t] })
    (B : Nat) (e : TypeId) (z : Value) (s bytes : Nat) (ht : P.underlying t = some (.slice e)) (hinfo : (P.info? e).map (fun i => (i.zero, i.size, i.bytes)) = some (some z, s, bytes))
    (hzs : z.cells.size = s) (hsz : 0 < s) (v : Value) (n : Nat) (xs : List Value) (hs : a.eval s0 = v) (hown : Own w B s v n xs)
    (x : Value) (m : Nat) (news : List Value) (hx : a.eval x0 = x) (hr : Rd w s x m news) (h1 : ∀ u ∈ news, u.oneCell' = true)
    (h63 : n + m ≤ maxLen) (hbytes : (n + m) * bytes ≤ 140737488355328) (hB : B ≤ w.heap.size)
    (h : ∀ v' w', Own w' B s v' (n + m) (xs ++ news) → ((∃ A c, v = .slice A n c ∧ v' = .slice A (n + m) c ∧ w.grownBy w' v.ownBlock) ∨ ∃ k, v'.ownBlock = some k ∧ w.heap.size ≤ k ∧ w.grownBy w' none) → wpList P ops Q rest (a.put o.dst v') w') : wpList P ops Q (o :: rest) a w := by
  refine wpList_plain hgd fun K hK => ?_
  obtain ⟨v', w', hrun, h2, h3⟩ := run_appS (P := P) w B t o.type e z s bytes ht hinfo hzs hsz v n xs hown x m news hr h1 h63 hbytes hB
  unfold Oper.wp execOp
  simp only [ho, resolve, invoke, builtin, Sem.run_bind, Sem.run_pure, Result.andThen_ok, List.map_toArray, List.map_cons, List.map_nil, hs, hx, hrun]
  exact hK _ _ (h v' w' h2 h3)

end
/-- a slice of the call's own that is not struck by a write: its block is another one, or it holds nothing. -/
theorem Own.far {w w' : World} {B s n c : Nat} {A : Option Addr} {xs : List Value} (h : Own w B s (.slice A n c) n xs) {r : Option Nat} (hg : w.grownBy w' r) (hr : ∀ k a, r = some k → A = some a → 0 < c → a.block ≠ k) : Own w' B s (.slice A n c) n xs := by
  rcases Nat.eq_zero_or_pos c with h0 | h0
  · obtain ⟨hl, A', c', g, off, e, hn, hc, hA0, hA, hB, hx, hf⟩ := h
    cases e
    subst h0
    obtain rfl : n = 0 := by omega
    exact ⟨hl, _, _, g, off, rfl, hn, hc, hA0, hA, hB, fun j hj => by omega, fun j hj => by omega⟩
  · refine h.gr hg fun k hk e => ?_
    cases A with
    | none => cases e
    | some a => cases e; exact hr _ a hk rfl h0 rfl
theorem Own.in_ {w : World} {B s n c : Nat} {a : Addr} {xs : List Value} (h : Own w B s (.slice (some a) n c) n xs) (hs : 0 < s) (h0 : 0 < c) : a.block < w.heap.size := by
  obtain ⟨hl, A', c', g, off, e, hn, hc, hA0, hA, hB, hx, hf⟩ := h
  cases e
  have := hA h0
  cases this
  have := (hf 0 (by have := Nat.mul_le_mul h0 hs; omega)).1
  obtain ⟨u, hu⟩ := Option.isSome_iff_exists.1 this
  exact World.block_lt_of_cell? w _ hu
end Go.Proofs.Ytkfokgjpeaibpaa

/- Which block a slice may be written in. -/
namespace Go.Proofs.Ytkfokgjpeaibpaa
open Go.RowKit
set_option maxRecDepth 100000

/-- what append says of one byte more. -/
def App1 (w w' : World) (n m : Nat) (v v' : Value) : Prop :=
  (∃ A c, v = .slice A n c ∧ v' = .slice A (n + m) c ∧ w.grownBy w' v.ownBlock) ∨ ∃ k, v'.ownBlock = some k ∧ w.heap.size ≤ k ∧ w.grownBy w' none
/-- the block that a slice's cells stand in, if it has room for any. -/
def blk : Value → Option Nat
  | .slice (some a) _ c => if c = 0 then none else some a.block
  | _ => none
section
variable {w w' : World} {B s n : Nat} {v v' : Value} {xs : List Value}
theorem Own.off (h : Own w B s v n xs) {r : Option Nat} (hg : w.grownBy w' r) (hr : ∀ k, r = some k → blk v ≠ some k) : Own w' B s v n xs := by
  obtain ⟨A, c, rfl⟩ : ∃ A c, v = .slice A n c := by obtain ⟨_, A, c, _, _, e, _⟩ := h; exact ⟨A, c, e⟩
  refine Own.far h hg fun k a e e' h0 e2 => hr k e ?_
  subst e'
  simp [blk, e2]
  omega
theorem Own.blk_lt (h : Own w B s v n xs) (hs : 0 < s) {k : Nat} (hk : blk v = some k) : B ≤ k ∧ k < w.heap.size := by
  obtain ⟨A, c, rfl⟩ : ∃ A c, v = .slice A n c := by obtain ⟨_, A, c, _, _, e, _⟩ := h; exact ⟨A, c, e⟩
  cases A with
  | none => cases hk
  | some a =>
    by_cases h0 : c = 0
    · simp [blk, h0] at hk
    · simp [blk, h0] at hk
      subst hk
      exact ⟨Own.lt h _ rfl, Own.in_ h hs (by omega)⟩
theorem Own.blk_some (h : Own w B s v n xs) (h0 : 0 < n) : ∃ k, blk v = some k := by
  obtain ⟨_, A, c, g, off, rfl, hn, _, hA0, hA, _⟩ := h
  have := hA (by omega)
  subst this
  exact ⟨g, by simp [blk]; omega⟩
/-- what a write onto a slice's end says: only its own block was struck, and where the longer one stands. -/
def Ext (w w' : World) (v u : Value) : Prop :=
  ∃ r, w.grownBy w' r ∧ (∀ k, r = some k → blk v = some k) ∧ ∃ ku, blk u = some ku ∧ (blk v = some ku ∨ w.heap.size ≤ ku)
theorem ext_of_app {m : Nat} (ho : Own w' B s v' (n + m) xs) (hm : 0 < m) (h : App1 w w' n m v v') : Ext w w' v v' := by
  obtain ⟨ku, hku⟩ := ho.blk_some (by omega)
  rcases h with ⟨A, c, rfl, rfl, g⟩ | ⟨k, e, hk, g⟩
  · have hc := ho.cap
    cases A with
    | none => cases hku
    | some a =>
      have e : (if c = 0 then none else some a.block) = some a.block := if_neg (by omega)
      refine ⟨some a.block, g, fun k hk => by rw [← hk]; exact e, a.block, e, .inl e⟩
  · refine ⟨none, g, fun k hk => (by cases hk), ku, hku, .inr ?_⟩
    obtain ⟨A, c, rfl⟩ : ∃ A c, v' = .slice A (n + m) c := by obtain ⟨_, A, c, _, _, e, _⟩ := ho; exact ⟨A, c, e⟩
    cases A with
    | none => cases e
    | some a =>
      have hc := ho.cap
      have e2 : (if c = 0 then none else some a.block) = some ku := hku
      rw [if_neg (by omega)] at e2
      cases e2
      cases e
      exact hk
theorem Ext.none_of {r : Option Nat} {W0 : World} (h : Ext w w' v v') (hg : W0.grownBy w r) (hv : ∀ k, blk v = some k → W0.heap.size ≤ k) : W0.grownBy w' r := by
  obtain ⟨r', g, hr, _⟩ := h
  exact gr_trans hg g (.inr fun k e => hv k (hr k e))
end
end Go.Proofs.Ytkfokgjpeaibpaa
