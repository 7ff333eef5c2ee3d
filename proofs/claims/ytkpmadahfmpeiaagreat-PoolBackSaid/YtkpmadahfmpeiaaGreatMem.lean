/-
  append, with what it says of the slice that it was given.
-/
import Derived.Test.YtkpmadahfmpeiaaGreatB
import Derived.Test.YtkpmadahfmpeiaaGreatOct
namespace Go.Proofs.YtkpmadahfmpeiaaGreat
open Go.RowKit
section
variable {P : Program} (w : World)
theorem run_appS (B : Nat) (t ty e : TypeId) (z : Value) (s bytes : Nat) (ht : P.underlying t = some (.slice e)) (hinfo : (P.info? e).map (fun i => (i.zero, i.size, i.bytes)) = some (some z, s, bytes))
    (hzs : z.cells.size = s) (hsz : 0 < s) (v : Value) (n : Nat) (xs : List Value) (hown : Own w B s v n xs)
    (x : Value) (m : Nat) (news : List Value) (hr : Rd w s x m news) (h1 : ∀ u ∈ news, u.oneCell' = true)
    (h63 : n + m ≤ maxLen) (hbytes : (n + m) * bytes ≤ 140737488355328) (hB : B ≤ w.heap.size) :
    ∃ v' w', (Builtin.append_ #[t, t] ty #[v, x]).run P w = .ok v' w' ∧ Own w' B s v' (n + m) (xs ++ news) ∧
      ((∃ A c, v = .slice A n c ∧ v' = .slice A (n + m) c ∧ w.grownBy w' v.ownBlock) ∨ ∃ k, v'.ownBlock = some k ∧ w.heap.size ≤ k ∧ w.grownBy w' none) := by
  obtain ⟨i, hi, hz, hsize, hby⟩ := info_parts hinfo
  have hown0 := hown
  obtain ⟨hl, A, c, g, off, rfl, hn, hc, hA0, hA, hb, hx, hf⟩ := hown
  obtain ⟨hl2, A2, c2, g2, off2, rfl, hn2, hc2, hA02, hA2, hx2⟩ := hr
  rcases Nat.eq_zero_or_pos m with hm | hm
  · subst hm
    have hnil : news = [] := List.eq_nil_of_length_eq_zero (by simpa using hl2)
    subst hnil
    exact ⟨_, w, run_app_zero w t ty e i ht hi A A2 n c c2 hn, by simpa using hown0, .inl ⟨_, _, rfl, rfl, gr_refl w _⟩⟩
  · have hA2' := hA2 (by omega)
    subst hA2'
    have hnews : ∀ j u, news[j]? = some u → w.cell? ((⟨g2, off2, none⟩ : Addr).add j) = some u := by
      intro j u hu
      have hj : j < news.length := (List.getElem?_eq_some_iff.1 hu).1
      rw [Addr.add_lit, hx2 j (by omega), hu]
    by_cases hroom : n + m ≤ c
    · have hA' := hA (by omega)
      subst hA'
      subst hsize
      have hcs : n * i.size + news.length ≤ c * i.size := by rw [hl2, ← Nat.add_mul]; exact Nat.mul_le_mul_right _ hroom
      have hrun := run_append_room_cells (P := P) w t ty e i ht hi g off n c ⟨g2, off2, none⟩ m c2 news hl2 hnews h1 hroom
        (fun j hj => by rw [Nat.add_assoc]; exact (hf _ (by omega)).1) (fun j hj => by rw [Nat.add_assoc]; exact (hf _ (by omega)).2)
      have hin := World.cell?_setCells_in g news (off + n * i.size) w (fun j hj => by rw [Nat.add_assoc]; exact (hf _ (by omega)).1)
      have hout : ∀ j, (j < n * i.size ∨ n * i.size + news.length ≤ j) → (w.setCells g (off + n * i.size) news).cell? ⟨g, off + j, none⟩ = w.cell? ⟨g, off + j, none⟩ := fun j hj =>
        World.cell?_setCells_out g news _ w _ (fun _ _ => by simp; omega)
      refine ⟨_, _, hrun, ⟨by rw [List.length_append, hl, hl2, Nat.add_mul], _, c, g, off, rfl, hroom, hc, hA0, hA, hb, fun j hj => ?_, fun j hj => ?_⟩, .inl ⟨_, _, rfl, rfl, gr_setCells g _ _ _⟩⟩
      · by_cases hjn : j < n * i.size
        · rw [hout j (.inl hjn), hx j hjn, List.getElem?_append_left (by omega)]
        · have hjm : j - n * i.size < news.length := by rw [Nat.add_mul, ← hl2] at hj; omega
          have := hin (j - n * i.size) hjm
          rw [show off + n * i.size + (j - n * i.size) = off + j from by omega] at this
          rw [this, List.getElem?_append_right (by omega), hl, List.getElem?_eq_getElem hjm]
      · refine ⟨?_, by rw [World.frozen?_setCells]; exact (hf j hj).2⟩
        by_cases hjn : j < n * i.size ∨ n * i.size + news.length ≤ j
        · rw [hout j hjn]; exact (hf j hj).1
        · have := hin (j - n * i.size) (by omega)
          rw [show off + n * i.size + (j - n * i.size) = off + j from by omega] at this
          rw [this]; rfl
    · have grows : ∃ v' w', (Builtin.append_ #[t, t] ty #[.slice A n c, .slice (some ⟨g2, off2, none⟩) m c2]).run P w = .ok v' w' ∧ w'.ownsRow w.heap.size e s v' (n + m) (xs ++ news) ∧ w.grownBy w' none := by
        cases A with
        | none =>
          have hc0 := hA0 rfl
          obtain rfl : n = 0 := by omega
          subst hc0
          obtain rfl : xs = [] := List.eq_nil_of_length_eq_zero (by simpa using hl)
          obtain ⟨v', w', hrun, r1, r2, _⟩ := run_append_own (P := P) w w.heap.size t ty e i z s bytes ht hi hz hsize hby hzs hsz (.slice none 0 0) 0 [] (World.ownsRow_nil w _ e s) _ m c2 news hl2 hnews h1 h63 hbytes (Nat.le_refl _)
          exact ⟨v', w', hrun, r1, r2⟩
        | some a =>
          refine run_append_arg_grows (P := P) w t ty e i z s bytes ht hi hz hsize hby hzs hsz a n c xs hl (fun j u hj => ?_) _ m c2 news hl2 hnews (by omega) h63 hbytes
          have hjl : j < xs.length := (List.getElem?_eq_some_iff.1 hj).1
          have h0 := pos_of_lt (show j < n * s by omega)
          have := hA (by omega)
          cases this
          rw [Addr.add_lit, hx j (by omega), hj]
      obtain ⟨v', w', hrun, r1, r2⟩ := grows
      refine ⟨v', w', hrun, (Own.of_row r1).mono hB, ?_⟩
      rcases r1.2 with ⟨_, h0⟩ | ⟨g', cap', cur', e', hg', _⟩
      · omega
      · exact .inr ⟨g', by rw [e']; rfl, hg', r2⟩

/-- append(v, x...) in a plain region. -/
theorem wp_appS {ops : Array Oper} {rest : List Oper} {o : Oper} {a : Act} {Q : Exit → Act → World → Prop} (hgd : o.guard = none) (s0 x0 : Operand) (t : TypeId)
    (ho : o.op = .call { callee := .builtin .append, args := #[s0, x0], argTypes := #[t, t] })
    (B : Nat) (e : TypeId) (z : Value) (s bytes : Nat) (ht : P.underlying t = some (.slice e)) (hinfo : (P.info? e).map (fun i => (i.zero, i.size, i.bytes)) = some (some z, s, bytes))
    (hzs : z.cells.size = s) (hsz : 0 < s) (v : Value) (n : Nat) (xs : List Value) (hs : a.eval s0 = v) (hown : Own w B s v n xs)
    (x : Value) (m : Nat) (news : List Value) (hx : a.eval x0 = x) (hr : Rd w s x m news) (h1 : ∀ u ∈ news, u.oneCell' = true)
    (h63 : n + m ≤ maxLen) (hbytes : (n + m) * bytes ≤ 140737488355328) (hB : B ≤ w.heap.size)
    (h : ∀ v' w', Own w' B s v' (n + m) (xs ++ news) → ((∃ A c, v = .slice A n c ∧ v' = .slice A (n + m) c ∧ w.grownBy w' v.ownBlock) ∨ ∃ k, v'.ownBlock = some k ∧ w.heap.size ≤ k ∧ w.grownBy w' none) → wpList P ops Q rest (a.put o.dst v') w') : wpList P ops Q (o :: rest) a w := by
  refine wpList_plain hgd fun K hK => ?_
  obtain ⟨v', w', hrun, h2, h3⟩ := run_appS (P := P) w B t o.type e z s bytes ht hinfo hzs hsz v n xs hown x m news hr h1 h63 hbytes hB
  unfold Oper.wp execOp
  simp only [ho, resolve, invoke, builtin, Sem.run_bind, Sem.run_pure, Result.andThen_ok, List.map_toArray, List.map_cons, List.map_nil, hs, hx, hrun]
  exact hK _ _ (h v' w' h2 h3)

end
/-- a slice of the call's own that is not struck by a write: its block is another one, or it holds nothing. -/
theorem Own.far {w w' : World} {B s n c : Nat} {A : Option Addr} {xs : List Value} (h : Own w B s (.slice A n c) n xs) {r : Option Nat} (hg : w.grownBy w' r) (hr : ∀ k a, r = some k → A = some a → 0 < c → a.block ≠ k) : Own w' B s (.slice A n c) n xs := by
  rcases Nat.eq_zero_or_pos c with h0 | h0
  · obtain ⟨hl, A', c', g, off, e, hn, hc, hA0, hA, hB, hx, hf⟩ := h
    cases e
    subst h0
    obtain rfl : n = 0 := by omega
    exact ⟨hl, _, _, g, off, rfl, hn, hc, hA0, hA, hB, fun j hj => by omega, fun j hj => by omega⟩
  · refine h.gr hg fun k hk e => ?_
    cases A with
    | none => cases e
    | some a => cases e; exact hr _ a hk rfl h0 rfl
theorem Own.in_ {w : World} {B s n c : Nat} {a : Addr} {xs : List Value} (h : Own w B s (.slice (some a) n c) n xs) (hs : 0 < s) (h0 : 0 < c) : a.block < w.heap.size := by
  obtain ⟨hl, A', c', g, off, e, hn, hc, hA0, hA, hB, hx, hf⟩ := h
  cases e
  have := hA h0
  cases this
  have := (hf 0 (by have := Nat.mul_le_mul h0 hs; omega)).1
  obtain ⟨u, hu⟩ := Option.isSome_iff_exists.1 this
  exact World.block_lt_of_cell? w _ hu
end Go.Proofs.YtkpmadahfmpeiaaGreat

/- Which block a slice may be written in. -/
namespace Go.Proofs.YtkpmadahfmpeiaaGreat
open Go.RowKit
set_option maxRecDepth 100000

/-- what append says of one byte more. -/
def App1 (w w' : World) (n m : Nat) (v v' : Value) : Prop :=
  (∃ A c, v = .slice A n c ∧ v' = .slice A (n + m) c ∧ w.grownBy w' v.ownBlock) ∨ ∃ k, v'.ownBlock = some k ∧ w.heap.size ≤ k ∧ w.grownBy w' none
/-- the block that a slice's cells stand in, if it has room for any. -/
def blk : Value → Option Nat
  | .slice (some a) _ c => if c = 0 then none else some a.block
  | _ => none
section
variable {w w' : World} {B s n : Nat} {v v' : Value} {xs : List Value}
theorem Own.off (h : Own w B s v n xs) {r : Option Nat} (hg : w.grownBy w' r) (hr : ∀ k, r = some k → blk v ≠ some k) : Own w' B s v n xs := by
  obtain ⟨A, c, rfl⟩ : ∃ A c, v = .slice A n c := by obtain ⟨_, A, c, _, _, e, _⟩ := h; exact ⟨A, c, e⟩
  refine Own.far h hg fun k a e e' h0 e2 => hr k e ?_
  subst e'
  simp [blk, e2]
  omega
theorem Own.blk_lt (h : Own w B s v n xs) (hs : 0 < s) {k : Nat} (hk : blk v = some k) : B ≤ k ∧ k < w.heap.size := by
  obtain ⟨A, c, rfl⟩ : ∃ A c, v = .slice A n c := by obtain ⟨_, A, c, _, _, e, _⟩ := h; exact ⟨A, c, e⟩
  cases A with
  | none => cases hk
  | some a =>
    by_cases h0 : c = 0
    · simp [blk, h0] at hk
    · simp [blk, h0] at hk
      subst hk
      exact ⟨Own.lt h _ rfl, Own.in_ h hs (by omega)⟩
theorem Own.blk_some (h : Own w B s v n xs) (h0 : 0 < n) : ∃ k, blk v = some k := by
  obtain ⟨_, A, c, g, off, rfl, hn, _, hA0, hA, _⟩ := h
  have := hA (by omega)
  subst this
  exact ⟨g, by simp [blk]; omega⟩
/-- what a write onto a slice's end says: only its own block was struck, and where the longer one stands. -/
def Ext (w w' : World) (v u : Value) : Prop :=
  ∃ r, w.grownBy w' r ∧ (∀ k, r = some k → blk v = some k) ∧ ∃ ku, blk u = some ku ∧ (blk v = some ku ∨ w.heap.size ≤ ku)
theorem ext_of_app {m : Nat} (ho : Own w' B s v' (n + m) xs) (hm : 0 < m) (h : App1 w w' n m v v') : Ext w w' v v' := by
  obtain ⟨ku, hku⟩ := ho.blk_some (by omega)
  rcases h with ⟨A, c, rfl, rfl, g⟩ | ⟨k, e, hk, g⟩
  · have hc := ho.cap
    cases A with
    | none => cases hku
    | some a =>
      have e : (if c = 0 then none else some a.block) = some a.block := if_neg (by omega)
      refine ⟨some a.block, g, fun k hk => by rw [← hk]; exact e, a.block, e, .inl e⟩
  · refine ⟨none, g, fun k hk => (by cases hk), ku, hku, .inr ?_⟩
    obtain ⟨A, c, rfl⟩ : ∃ A c, v' = .slice A (n + m) c := by obtain ⟨_, A, c, _, _, e, _⟩ := ho; exact ⟨A, c, e⟩
    cases A with
    | none => cases e
    | some a =>
      have hc := ho.cap
      have e2 : (if c = 0 then none else some a.block) = some ku := hku
      rw [if_neg (by omega)] at e2
      cases e2
      cases e
      exact hk
theorem Ext.none_of {r : Option Nat} {W0 : World} (h : Ext w w' v v') (hg : W0.grownBy w r) (hv : ∀ k, blk v = some k → W0.heap.size ≤ k) : W0.grownBy w' r := by
  obtain ⟨r', g, hr, _⟩ := h
  exact gr_trans hg g (.inr fun k e => hv k (hr k e))
end
end Go.Proofs.YtkpmadahfmpeiaaGreat

/- More words of memory: append of noughts, copy, what a write leaves as it was. -/
namespace Go.Proofs.YtkpmadahfmpeiaaGreat
open Go.RowKit
set_option maxRecDepth 100000
set_option maxHeartbeats 400000

/-- a write onto a slice of the call's own: its block alone is struck, and the longer one stands there or in a new one. -/
def Ext0 (w w' : World) (v u : Value) : Prop :=
  ∃ r, w.grownBy w' r ∧ (∀ k, r = some k → blk v = some k) ∧ ∀ k, blk u = some k → blk v = some k ∨ w.heap.size ≤ k
theorem ext0_refl (w : World) (v : Value) : Ext0 w w v v := ⟨none, gr_refl _ _, fun _ e => (by cases e), fun _ e => .inl e⟩
theorem zeroCells_one (z : Value) (n : Nat) : (Builtin.zeroCells #[z] n).toList = List.replicate n z := by
  apply List.ext_getElem
  · simp [Builtin.zeroCells]
  · intro i h1 h2
    simp [Builtin.zeroCells, Nat.mod_one]
theorem blk_none_of {A : Option Addr} {n c : Nat} (h : c = 0) : blk (.slice A n c) = none := by
  cases A with
  | none => rfl
  | some a => exact if_pos h
theorem blk_some_of {a : Addr} {n c : Nat} (h : 0 < c) : blk (.slice (some a) n c) = some a.block := if_neg (by omega)
theorem own_grow {w : World} {B m : Nat} {v : Value} {l : List UInt8} (e : TypeId) (hm : l.length ≤ m) (hmx : m ≤ maxLen) (hB : B ≤ w.heap.size) (cs : Array Value) (hcs : cs.size = m) (hcl : cs.toList.take l.length = l.map u8v) (hv : v = .slice (some ⟨w.heap.size, 0, none⟩) l.length m) :
    OwnB (w.drew.alloc (.cells cs e)) B v l := by
  subst hv
  have := own_lit w.drew B 1 l.length m cs e (0, 0) (.inr (Nat.le_refl _)) (by omega) hm hmx hB
  rw [Nat.mul_one, hcl] at this
  exact this
theorem run_appZ (w : World) (ty : TypeId) (B : Nat) (v : Value) (l : List UInt8) (hown : OwnB w B v l) (m : Nat) (hm : l.length + m ≤ 70000000000000) (hB : B ≤ w.heap.size) :
    ∃ v' w', (Builtin.append_ #[33, 3] ty #[v, .int .i64 m]).run Tryz.prog w = .ok v' w' ∧ OwnB w' B v' (l ++ List.replicate m 0) ∧ Ext0 w w' v v' := by
  obtain ⟨i, hi, hz, hsize, hby⟩ := info_parts Tryz.info5
  have hown0 := hown
  obtain ⟨hl, A, c, g, off, rfl, hn, hc, hA0, hA, hb, hx, hf⟩ := hown
  have hwr : IntKind.i64.wrap (m : Int) = (m : Int) := by rw [IntWalk.i64_in _ (by omega)]
  have hnn : ¬ ((m : Int) < 0) := by omega
  have hsm : ¬ ((281474976710656 : Int) < (m : Int)) := by omega
  have hzl : (Builtin.zeroCells (Value.int IntKind.u8 0).cells m).toList = List.replicate m (Value.int .u8 0) := zeroCells_one _ _
  have hrep : (List.replicate m (0 : UInt8)).map u8v = List.replicate m (Value.int .u8 0) := by simp [u8v]
  by_cases hroom : l.length + m ≤ c
  · rcases Nat.eq_zero_or_pos m with h0 | h0
    · subst h0
      have hw0 : IntKind.i64.wrap 0 = 0 := by decide
      refine ⟨_, w, ?_, by simpa using hown0, ext0_refl w _⟩
      cases A <;> simp [Builtin.append_, run_underlying Tryz.underlying33, run_underlying Tryz.underlying3, sizeOf, typeInfo, hi, hby, hw0, hn, storeCells, asInt, asIntOf]
    · obtain rfl := hA (by omega)
      have hst := run_storeCells_cells (P := Tryz.prog) g (off + l.length) (List.replicate m (Value.int .u8 0)) 0 w (fun j hj => by rw [Nat.add_zero, Nat.add_assoc]; exact (hf _ (by simp at hj; omega)).1) (fun j hj => by rw [Nat.add_zero, Nat.add_assoc]; exact (hf _ (by simp at hj; omega)).2)
        (fun u hu => by rw [List.eq_of_mem_replicate hu]; rfl)
      rw [Nat.add_zero] at hst
      have hin := World.cell?_setCells_in g (List.replicate m (Value.int .u8 0)) (off + l.length) w (fun j hj => by rw [Nat.add_assoc]; exact (hf _ (by simp at hj; omega)).1)
      have hout : ∀ j, (j < l.length ∨ l.length + m ≤ j) → (w.setCells g (off + l.length) (List.replicate m (Value.int .u8 0))).cell? ⟨g, off + j, none⟩ = w.cell? ⟨g, off + j, none⟩ := fun j hj =>
        World.cell?_setCells_out g _ _ w _ (fun _ _ => by simp; omega)
      refine ⟨_, w.setCells g (off + l.length) (List.replicate m (Value.int .u8 0)), ?_, ⟨by simp, _, c, g, off, rfl, by simpa using hroom, hc, hA0, hA, hb, fun j hj => ?_, fun j hj => ?_⟩, ⟨some g, gr_setCells g _ _ _, fun k hk => (by cases hk; exact blk_some_of (by omega)), fun k hk => .inl ?_⟩⟩
      · have hm0 : ¬ m = 0 := by omega
        simp [Builtin.append_, run_underlying Tryz.underlying33, run_underlying Tryz.underlying3, sizeOf, typeInfo, zeroValue, hi, hz, hsize, hby, hwr, hnn, hsm, hroom, hm0, hzl, asInt, asIntOf, Addr.add_lit, hst]
      · simp only [List.length_append, List.length_replicate, Nat.mul_one] at hj
        rw [List.map_append, hrep]
        by_cases hjn : j < l.length
        · rw [hout j (.inl hjn), hx j (by omega), List.getElem?_append_left (by simpa using hjn)]
        · have := hin (j - l.length) (by simp; omega)
          rw [show off + l.length + (j - l.length) = off + j from by omega] at this
          rw [this, List.getElem?_append_right (by simp; omega), List.length_map, List.getElem?_eq_getElem (by simp; omega)]
      · refine ⟨?_, by rw [World.frozen?_setCells]; exact (hf j hj).2⟩
        by_cases hjn : j < l.length ∨ l.length + m ≤ j
        · rw [hout j hjn]; exact (hf j hj).1
        · have := hin (j - l.length) (by simp; omega)
          rw [show off + l.length + (j - l.length) = off + j from by omega] at this
          rw [this]; rfl
      · rw [blk_some_of (by omega)] at hk ⊢
        exact hk
  · have hm0 : ¬ m = 0 := by omega
    have hge := grownCap_ge w (l.length + m) c 5
    have hcm : grownCap w (l.length + m) c 5 ≤ maxLen := grownCap_le_maxLen w (l.length + m) c 5 (by unfold maxLen; omega)
    have h63 : ¬ ((9223372036854775807 : Int) < (l.length : Int) + (m : Int)) := by omega
    have h48 : ¬ (281474976710656 < Builtin.nextslicecap (l.length + m) c) := by have := growslice_fits (need := l.length + m) (old := c) (bytes := 1) (by omega) (by omega); omega
    have hfo : (Builtin.firstCells 1 l.length (.slice A l.length c)).run Tryz.prog w.drew = .ok (l.map u8v).toArray w.drew := by
      cases A with
      | none =>
        have := hA0 rfl
        obtain rfl : l = [] := List.eq_nil_of_length_eq_zero (by omega)
        rfl
      | some a =>
        refine run_firstCells_some (P := Tryz.prog) w.drew 1 l.length a l.length c (l.map u8v) (by simp) fun j u hj => ?_
        have hjl : j < (l.map u8v).length := (List.getElem?_eq_some_iff.1 hj).1
        have h0 : j < l.length := by simpa using hjl
        have := hA (by omega)
        cases this
        rw [Addr.add_lit]
        show w.cell? _ = _
        rw [hx j (by omega), hj]
    refine ⟨.slice (some ⟨w.heap.size, 0, none⟩) (l.length + m) (grownCap w (l.length + m) c 5), w.drew.alloc (.cells ((l.map u8v).toArray ++ (List.replicate m (Value.int .u8 0)).toArray ++ Builtin.zeroCells (Value.int IntKind.u8 0).cells (grownCap w (l.length + m) c 5 - (l.length + m))) 5), ?_, ?_, none, gr_trans (gr_drew w none) (gr_alloc _ _ none) (.inl rfl), fun _ e => (by cases e), fun k hk => .inr ?_⟩
    · have hza : Builtin.zeroCells (Value.int IntKind.u8 0).cells m = (List.replicate m (Value.int .u8 0)).toArray := by rw [← hzl]
      simp [Builtin.append_, run_underlying Tryz.underlying33, run_underlying Tryz.underlying3, sizeOf, typeInfo, zeroValue, hi, hz, hsize, hby, hwr, hnn, hsm, hroom, hm0, hza, asInt, asIntOf, h63, h48, Question.forced, hfo, newRow, grownCap]
    · refine own_grow (l := l ++ List.replicate m 0) 5 (by simpa using hge) hcm hB _ ?_ ?_ (by simp)
      · simp [size_zeroCells, Value.cells]; omega
      · rw [List.map_append, hrep, Array.toList_append, Array.toList_append]
        exact List.take_left' (by simp)
    · rcases Nat.eq_zero_or_pos (grownCap w (l.length + m) c 5) with h0 | h0
      · rw [blk_none_of h0] at hk; cases hk
      · rw [blk_some_of h0] at hk; cases hk; exact Nat.le_refl _

/-- bytes laid over others from a place on. -/
def over (l : List UInt8) (p : Nat) (m : List UInt8) : List UInt8 := l.take p ++ m ++ l.drop (p + m.length)
theorem over_len {l m : List UInt8} {p : Nat} (h : p + m.length ≤ l.length) : (over l p m).length = l.length := by simp [over]; omega
theorem over_nil (l : List UInt8) (p : Nat) : over l p [] = l := by simp [over]
theorem over_at {l m : List UInt8} {p : Nat} (h : p + m.length ≤ l.length) (j : Nat) : (over l p m)[j]? = if j < p then l[j]? else if j < p + m.length then m[j - p]? else l[j]? := by
  unfold over
  by_cases h1 : j < p
  · rw [if_pos h1, List.append_assoc, List.getElem?_append_left (by simp; omega), List.getElem?_take, if_pos h1]
  · rw [if_neg h1, List.append_assoc, List.getElem?_append_right (by simp; omega)]
    have hl : (l.take p).length = p := by simp; omega
    rw [hl]
    by_cases h2 : j < p + m.length
    · rw [if_pos h2, List.getElem?_append_left (by omega)]
    · rw [if_neg h2, List.getElem?_append_right (by omega), List.getElem?_drop]
      congr 1; omega
/-- copy(v[p:], x). -/
theorem run_copyB (w : World) (ty : TypeId) (B p : Nat) (A : Option Addr) (c : Nat) (l m : List UInt8) (hown : OwnB w B (.slice A l.length c) l) (hpm : p + m.length ≤ l.length) (x : Value) (hr : RdB w x m) :
    ∃ w', (Builtin.copy_ #[33, 33] ty #[.slice (cutA A c p 1) (l.length - p) (c - p), x]).run Tryz.prog w = .ok (.int .i64 m.length) w' ∧ OwnB w' B (.slice A l.length c) (over l p m) ∧ Ext0 w w' (.slice A l.length c) (.slice A l.length c) := by
  obtain ⟨i, hi, hz, hsize, hby⟩ := info_parts Tryz.info5
  have hown0 := hown
  obtain ⟨hl, A', c', g, off, e, hn, hc, hA0, hA, hb, hx, hf⟩ := hown
  cases e
  obtain ⟨hl2, A2, c2, g2, off2, rfl, hn2, hc2, hA02, hA2, hx2⟩ := hr
  have hmin : Nat.min m.length (l.length - p) = m.length := Nat.min_eq_left (by omega)
  have hgi : goInt m.length = .int .i64 m.length := rfl
  rcases Nat.eq_zero_or_pos m.length with h0 | h0
  · obtain rfl : m = [] := List.eq_nil_of_length_eq_zero h0
    refine ⟨w, ?_, by rw [over_nil]; exact hown0, ext0_refl w _⟩
    have hfc : (Builtin.firstCells 1 0 (.slice A2 0 c2)).run Tryz.prog w = .ok #[] w := by cases A2 <;> simp [Builtin.firstCells, loadCells, loadCellsFrom]
    have hz0 : goInt 0 = .int .i64 0 := rfl
    cases hcu : cutA A c p 1 <;> simp [Builtin.copy_, run_underlying Tryz.underlying33, sizeOf, typeInfo, hi, hsize, Builtin.lenOf, hfc, storeCells, hz0]
  · obtain rfl := hA2 (by omega)
    obtain rfl := hA (by omega)
    have hnews : ∀ j u, (m.map u8v)[j]? = some u → w.cell? ((⟨g2, off2, none⟩ : Addr).add j) = some u := by
      intro j u hu
      have hj : j < (m.map u8v).length := (List.getElem?_eq_some_iff.1 hu).1
      rw [Addr.add_lit, hx2 j (by simpa using hj), hu]
    have hfc := run_firstCells_some (P := Tryz.prog) w 1 m.length ⟨g2, off2, none⟩ m.length c2 (m.map u8v) (by simp) hnews
    have hst := run_storeCells_cells (P := Tryz.prog) g (off + p) (m.map u8v) 0 w (fun j hj => by rw [Nat.add_zero, Nat.add_assoc]; exact (hf _ (by simp at hj; omega)).1) (fun j hj => by rw [Nat.add_zero, Nat.add_assoc]; exact (hf _ (by simp at hj; omega)).2) (u8_one m)
    rw [Nat.add_zero] at hst
    have hcut : cutA (some ⟨g, off, none⟩) c p 1 = some ⟨g, off + p, none⟩ := by
      unfold cutA
      rw [if_neg (by omega)]
      simp [Addr.add_lit]
    have hin := World.cell?_setCells_in g (m.map u8v) (off + p) w (fun j hj => by rw [Nat.add_assoc]; exact (hf _ (by simp at hj; omega)).1)
    have hout : ∀ j, (j < p ∨ p + m.length ≤ j) → (w.setCells g (off + p) (m.map u8v)).cell? ⟨g, off + j, none⟩ = w.cell? ⟨g, off + j, none⟩ := fun j hj =>
      World.cell?_setCells_out g _ _ w _ (fun _ _ => by simp; omega)
    refine ⟨w.setCells g (off + p) (m.map u8v), ?_, ⟨by simp, _, c, g, off, by rw [over_len hpm], by rw [over_len hpm]; exact hn, hc, hA0, hA, hb, fun j hj => ?_, fun j hj => ?_⟩, some g, gr_setCells g _ _ _, fun k hk => (by cases hk; exact blk_some_of (by omega)), fun k hk => .inl hk⟩
    · rw [hcut]
      simp [Builtin.copy_, run_underlying Tryz.underlying33, sizeOf, typeInfo, hi, hsize, Builtin.lenOf, hmin, hfc, hst, hgi]
    · rw [Nat.mul_one, over_len hpm] at hj
      rw [List.getElem?_map, over_at hpm]
      by_cases h1 : j < p ∨ p + m.length ≤ j
      · rw [hout j h1, hx j (by omega), List.getElem?_map]
        rcases h1 with h1 | h1
        · rw [if_pos h1]
        · rw [if_neg (by omega), if_neg (by omega)]
      · have := hin (j - p) (by simp; omega)
        rw [show off + p + (j - p) = off + j from by omega] at this
        rw [this, if_neg (by omega), if_pos (by omega), ← List.getElem?_map, List.getElem?_eq_getElem (by simp; omega)]
    · refine ⟨?_, by rw [World.frozen?_setCells]; exact (hf j hj).2⟩
      by_cases h1 : j < p ∨ p + m.length ≤ j
      · rw [hout j h1]; exact (hf j hj).1
      · have := hin (j - p) (by simp; omega)
        rw [show off + p + (j - p) = off + j from by omega] at this
        rw [this]; rfl

/-! what stays where a block stays -/
section
variable {w w' : World} {B s n : Nat} {v : Value} {xs : List Value}
theorem cell_of_same {k o : Nat} (h : w'.heap[k]? = w.heap[k]?) : w'.cell? ⟨k, o, none⟩ = w.cell? ⟨k, o, none⟩ := World.cell?_of_block h
theorem frozen_of_same {k o : Nat} (h : w'.heap[k]? = w.heap[k]?) : w'.frozen? ⟨k, o, none⟩ = w.frozen? ⟨k, o, none⟩ := World.frozen?_of_block h
theorem Own.same (h : Own w B s v n xs) (hb : ∀ k, blk v = some k → w'.heap[k]? = w.heap[k]?) : Own w' B s v n xs := by
  obtain ⟨hl, A, c, g, off, rfl, hn, hc, hA0, hA, hB, hx, hf⟩ := h
  rcases Nat.eq_zero_or_pos c with h0 | h0
  · subst h0
    obtain rfl : n = 0 := by omega
    exact ⟨hl, A, 0, g, off, rfl, hn, hc, hA0, hA, hB, fun j hj => by omega, fun j hj => by omega⟩
  · obtain rfl := hA h0
    have := hb g (blk_some_of h0)
    exact ⟨hl, _, c, g, off, rfl, hn, hc, hA0, hA, hB, fun j hj => by rw [cell_of_same this]; exact hx j hj, fun j hj => by rw [cell_of_same this, frozen_of_same this]; exact hf j hj⟩
theorem Rd.same (h : Rd w s v n xs) (hb : ∀ k, blk v = some k → w'.heap[k]? = w.heap[k]?) : Rd w' s v n xs := by
  obtain ⟨hl, A, c, g, off, rfl, hn, hc, hA0, hA, hx⟩ := h
  rcases Nat.eq_zero_or_pos c with h0 | h0
  · subst h0
    obtain rfl : n = 0 := by omega
    exact ⟨hl, A, 0, g, off, rfl, hn, hc, hA0, hA, fun j hj => by omega⟩
  · obtain rfl := hA h0
    have := hb g (blk_some_of h0)
    exact ⟨hl, _, c, g, off, rfl, hn, hc, hA0, hA, fun j hj => by rw [cell_of_same this]; exact hx j hj⟩
theorem Blk.same {g : Nat} {t : TypeId} {cs : Array Value} (h : Blk w g t cs) (hb : w'.heap[g]? = w.heap[g]?) : Blk w' g t cs := hb.trans h
end
end Go.Proofs.YtkpmadahfmpeiaaGreat
