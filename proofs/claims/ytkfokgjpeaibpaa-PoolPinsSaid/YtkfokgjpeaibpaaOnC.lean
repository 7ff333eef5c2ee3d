/-
  disk.Loose: the order of sectors in the program, and the range over the loose ones.
-/
import Derived.Test.YtkfokgjpeaibpaaSec
import Derived.Test.YtkfokgjpeaibpaaDi
import Derived.Sort.Grow
import Derived.Test.YtkfokgjpeaibpaaApp
import Derived.Test.YtkfokgjpeaibpaaDw7
namespace Go.Proofs.Ytkfokgjpeaibpaa
open Go.RowKit Go.Maps Go.Sort
set_option maxRecDepth 100000
set_option maxHeartbeats 400000

theorem strB_eq (x y : List UInt8) : ((⟨x.toArray⟩ : ByteArray).toList == (⟨y.toArray⟩ : ByteArray).toList) = (x == y) := by simp
section
variable {w w' : World} {m n r cnt : Nat} {L left : List UInt8 → Int → Bool}
/-- range m, with how many there are at most. -/
theorem wp_lm_range2 {ops : Array Oper} {rest : List Oper} {o : Oper} {a : Act} {Q : Exit → Act → World → Prop} (hg : o.guard = none) (mm : Operand) (hop : o.op = .range 83 mm)
    (h : LM w m n L) (hm : a.eval mm = .map (some m))
    (hK : ∀ w' cnt, cnt ≤ n → LR w' m w.heap.size n L L cnt → w.grownBy w' none → w'.heap.size = w.heap.size + 1 → wpList Try.prog ops Q rest (a.put o.dst (.pointer (some ⟨w.heap.size, 0, none⟩))) w') :
    wpList Try.prog ops Q (o :: rest) a w := by
  obtain ⟨D, h, h0⟩ := h
  exact wpList_range_own w hg mm _ hop 123 4 Try.keyedK Try.underlying83 _ m n D hm h fun w' r1 r2 r3 => hK w' _ h.size_le ⟨D, _, r1, h0, h0⟩ r2 r3
end
def OwnP (w : World) (B : Nat) (v : Value) (l : List Sec) : Prop := Go.Proofs.Ytkfokgjpeaibpaa.Own w B 2 v l.length (l.flatMap Sec.enc)
end Go.Proofs.Ytkfokgjpeaibpaa

/- disk.Loose. -/
namespace Go.Proofs.Ytkfokgjpeaibpaa
open Go.RowKit Go.Maps
set_option maxRecDepth 100000
set_option maxHeartbeats 400000

/-- loose sectors have small numbers. -/
def LooseOk (S : Dk) : Prop := ∀ s k, okK s k → S.loose s k = true → 0 ≤ k ∧ k < 4294967296
/-- the list has what is loose and no longer to come. -/
def LsOf (lo left : List UInt8 → Int → Bool) (l : List Sec) : Prop := l.Nodup ∧ (∀ s k, okK s k → ((lo s k = true ∧ left s k = false) ↔ ∃ p : UInt32, (⟨s, p⟩ : Sec) ∈ l ∧ k = (p.toNat : Int))) ∧ (∀ x ∈ l, okK x.name (x.page.toNat : Int)) ∧ ∀ s k, okK s k → left s k = true → lo s k = true
theorem LsOf.start (lo : List UInt8 → Int → Bool) : LsOf lo lo [] := ⟨List.nodup_nil, fun s k _ => ⟨(fun h => by have h1 := h.1; rw [h.2] at h1; cases h1), (fun ⟨p, h, _⟩ => by cases h)⟩, (fun x h => by cases h), fun _ _ _ h => h⟩
theorem LsOf.step {lo left : List UInt8 → Int → Bool} {l : List Sec} (h : LsOf lo left l) {s : List UInt8} {k : Int} (hk : okK s k) (hl : left s k = true) (hlo : lo s k = true) {p : UInt32} (hp : k = (p.toNat : Int)) : LsOf lo (noK left s k) (l ++ [⟨s, p⟩]) := by
  have hnot : (⟨s, p⟩ : Sec) ∉ l := fun hm => by
    have := (h.2.1 s k hk).2 ⟨p, hm, hp⟩
    rw [hl] at this; cases this.2
  refine ⟨?_, fun y j hy => ?_, fun x hx => ?_, fun y j hy h1 => h.2.2.2 y j hy (by unfold noK at h1; simp at h1; exact h1.1)⟩
  · rw [List.nodup_append]
    exact ⟨h.1, by simp, fun a ha b hb => by rw [List.mem_singleton.1 hb]; exact fun e => hnot (e ▸ ha)⟩
  · constructor
    · rintro ⟨h1, h2⟩
      by_cases e : y = s ∧ j = k
      · obtain ⟨rfl, rfl⟩ := e
        exact ⟨p, by simp, hp⟩
      · have hf : (y == s && j == k) = false := by
          rw [Bool.eq_false_iff]
          intro h
          simp only [Bool.and_eq_true, beq_iff_eq] at h
          exact e h
        have h3 : left y j = false := by
          unfold noK at h2
          rw [hf] at h2
          simpa using h2
        obtain ⟨q, hq, e⟩ := (h.2.1 y j hy).1 ⟨h1, h3⟩
        exact ⟨q, List.mem_append_left _ hq, e⟩
    · rintro ⟨q, hq, e⟩
      rcases List.mem_append.1 hq with hq | hq
      · obtain ⟨h1, h2⟩ := (h.2.1 y j hy).2 ⟨q, hq, e⟩
        exact ⟨h1, by unfold noK; rw [h2]; rfl⟩
      · have := List.mem_singleton.1 hq
        obtain ⟨rfl, rfl⟩ : y = s ∧ q = p := by cases this; exact ⟨rfl, rfl⟩
        rw [← hp] at e
        subst e
        exact ⟨hlo, by unfold noK; simp⟩
  · rcases List.mem_append.1 hx with hx | hx
    · exact h.2.2.1 x hx
    · rw [List.mem_singleton.1 hx]; rw [hp] at hk; exact hk
section
variable {w : World} {B d : Nat} {o : Own1} {S : Dk} {c : Con}
def LooseOut (w : World) (S : Dk) (e : Ending) (w' : World) : Prop :=
  ∃ v l, e = .returned v ∧ OwnP w' w.heap.size v l ∧ SecUp l ∧ (∀ s k, okK s k → (S.loose s k = true ↔ ∃ p : UInt32, (⟨s, p⟩ : Sec) ∈ l ∧ k = (p.toNat : Int))) ∧ (∀ x ∈ l, okK x.name (x.page.toNat : Int)) ∧ l.length ≤ S.nl ∧ w.grownBy w' none
end
end Go.Proofs.Ytkfokgjpeaibpaa

/- copy into a part of a list of the call's own; append of noughts. -/
namespace Go.Proofs.Ytkfokgjpeaibpaa
open Go.RowKit
set_option maxRecDepth 100000

/-- copy(v[p:q], x), where x has just so many. -/
theorem run_copyM (w : World) (ty : TypeId) (B p : Nat) (A : Option Addr) (c : Nat) (l m : List UInt8) (hown : OwnB w B (.slice A l.length c) l) (hpm : p + m.length ≤ l.length) (x : Value) (hr : RdB w x m) :
    ∃ w', (Builtin.copy_ #[27, 27] ty #[.slice (cutA A c p 1) m.length (c - p), x]).run Try.prog w = .ok (.int .i64 m.length) w' ∧ OwnB w' B (.slice A l.length c) (over l p m) ∧ Ext0 w w' (.slice A l.length c) (.slice A l.length c) := by
  obtain ⟨i, hi, hz, hsize, hby⟩ := info_parts Try.info5
  have hown0 := hown
  obtain ⟨hl, A', c', g, off, e, hn, hc, hA0, hA, hb, hx, hf⟩ := hown
  cases e
  obtain ⟨hl2, A2, c2, g2, off2, rfl, hn2, hc2, hA02, hA2, hx2⟩ := hr
  have hmin : Nat.min m.length m.length = m.length := Nat.min_eq_left (by omega)
  have hgi : goInt m.length = .int .i64 m.length := rfl
  rcases Nat.eq_zero_or_pos m.length with h0 | h0
  · obtain rfl : m = [] := List.eq_nil_of_length_eq_zero h0
    refine ⟨w, ?_, by rw [over_nil]; exact hown0, ext0_refl w _⟩
    have hfc : (Builtin.firstCells 1 0 (.slice A2 0 c2)).run Try.prog w = .ok #[] w := by cases A2 <;> simp [Builtin.firstCells, loadCells, loadCellsFrom]
    have hz0 : goInt 0 = .int .i64 0 := rfl
    cases hcu : cutA A c p 1 <;> simp [Builtin.copy_, run_underlying Try.underlying27, sizeOf, typeInfo, hi, hsize, Builtin.lenOf, hfc, storeCells, hz0]
  · obtain rfl := hA2 (by omega)
    obtain rfl := hA (by omega)
    have hnews : ∀ j u, (m.map u8v)[j]? = some u → w.cell? ((⟨g2, off2, none⟩ : Addr).add j) = some u := by
      intro j u hu
      have hj : j < (m.map u8v).length := (List.getElem?_eq_some_iff.1 hu).1
      rw [Addr.add_lit, hx2 j (by simpa using hj), hu]
    have hfc := run_firstCells_some (P := Try.prog) w 1 m.length ⟨g2, off2, none⟩ m.length c2 (m.map u8v) (by simp) hnews
    have hst := run_storeCells_cells (P := Try.prog) g (off + p) (m.map u8v) 0 w (fun j hj => by rw [Nat.add_zero, Nat.add_assoc]; exact (hf _ (by simp at hj; omega)).1) (fun j hj => by rw [Nat.add_zero, Nat.add_assoc]; exact (hf _ (by simp at hj; omega)).2) (u8_one m)
    rw [Nat.add_zero] at hst
    have hcut : cutA (some ⟨g, off, none⟩) c p 1 = some ⟨g, off + p, none⟩ := by
      unfold cutA
      rw [if_neg (by omega)]
      simp [Addr.add_lit]
    have hin := World.cell?_setCells_in g (m.map u8v) (off + p) w (fun j hj => by rw [Nat.add_assoc]; exact (hf _ (by simp at hj; omega)).1)
    have hout : ∀ j, (j < p ∨ p + m.length ≤ j) → (w.setCells g (off + p) (m.map u8v)).cell? ⟨g, off + j, none⟩ = w.cell? ⟨g, off + j, none⟩ := fun j hj =>
      World.cell?_setCells_out g _ _ w _ (fun _ _ => by simp; omega)
    refine ⟨w.setCells g (off + p) (m.map u8v), ?_, ⟨by simp, _, c, g, off, by rw [over_len hpm], by rw [over_len hpm]; exact hn, hc, hA0, hA, hb, fun j hj => ?_, fun j hj => ?_⟩, some g, gr_setCells g _ _ _, fun k hk => (by cases hk; exact blk_some_of (by omega)), fun k hk => .inl hk⟩
    · rw [hcut]
      simp [Builtin.copy_, run_underlying Try.underlying27, sizeOf, typeInfo, hi, hsize, Builtin.lenOf, hmin, hfc, hst, hgi]
    · rw [Nat.mul_one, over_len hpm] at hj
      rw [List.getElem?_map, over_at hpm]
      by_cases h1 : j < p ∨ p + m.length ≤ j
      · rw [hout j h1, hx j (by omega), List.getElem?_map]
        rcases h1 with h1 | h1
        · rw [if_pos h1]
        · rw [if_neg (by omega), if_neg (by omega)]
      · have := hin (j - p) (by simp; omega)
        rw [show off + p + (j - p) = off + j from by omega] at this
        rw [this, if_neg (by omega), if_pos (by omega), ← List.getElem?_map, List.getElem?_eq_getElem (by simp; omega)]
    · refine ⟨?_, by rw [World.frozen?_setCells]; exact (hf j hj).2⟩
      by_cases h1 : j < p ∨ p + m.length ≤ j
      · rw [hout j h1]; exact (hf j hj).1
      · have := hin (j - p) (by simp; omega)
        rw [show off + p + (j - p) = off + j from by omega] at this
        rw [this]; rfl

/-! what stays where a block stays -/
section
variable {w : World} {B : Nat}
theorem step_copyM {q : Oper} {a : Act} {K : Act → World → Prop} {Q : Exit → Act → World → Prop} (s0 x0 : Operand) (ho : q.op = .call { callee := .builtin .copy, args := #[s0, x0], argTypes := #[27, 27] })
    {v x : Value} {M : Int} {w' : World} (hs : a.eval s0 = v) (hx : a.eval x0 = x) (hrun : (Builtin.copy_ #[27, 27] q.type #[v, x]).run Try.prog w = .ok (.int .i64 M) w') (hK : K (a.put q.dst (.int .i64 M)) w') : q.wp Try.prog a w K Q := by
  unfold Oper.wp execOp
  simp only [ho, resolve, invoke, builtin, Sem.run_bind, Sem.run_pure, Result.andThen_ok, List.map_toArray, List.map_cons, List.map_nil, hs, hx, hrun]
  exact hK
theorem wp_appZc {ops : Array Oper} {rest : List Oper} {q : Oper} {a : Act} {Q : Exit → Act → World → Prop} (hgd : q.guard = none) (s0 x0 : Operand) (ho : q.op = .call { callee := .builtin .append, args := #[s0, x0], argTypes := #[27, 3] })
    {v : Value} {l : List UInt8} {m : Nat} (hs : a.eval s0 = v) (hx : a.eval x0 = .int .i64 (m : Int)) (hown : OwnB w B v l) (hm : l.length + m ≤ 70000000000000) (hB : B ≤ w.heap.size)
    (h : ∀ v' w', OwnB w' B v' (l ++ List.replicate m 0) → Ext0 w w' v v' → wpList Try.prog ops Q rest (a.put q.dst v') w') : wpList Try.prog ops Q (q :: rest) a w := by
  refine wpList_plain hgd fun K hK => ?_
  obtain ⟨v', w', hrun, h1, h2⟩ := run_appZ w q.type B v l hown m hm hB
  unfold Oper.wp execOp
  simp only [ho, resolve, invoke, builtin, Sem.run_bind, Sem.run_pure, Result.andThen_ok, List.map_toArray, List.map_cons, List.map_nil, hs, hx, hrun]
  exact hK _ _ (h v' w' h1 h2)
end
end Go.Proofs.Ytkfokgjpeaibpaa
