/-
  A disk: Cut.
-/
import Derived.Test.YtkfokgjpeaibpaaDw5
import Derived.Deep.RegionHeld3
import Derived.Deep.RegionLaw
namespace Go.Proofs.Ytkfokgjpeaibpaa
open Go.RowKit
set_option maxRecDepth 100000
set_option maxHeartbeats 400000

theorem setF_setF {fs : List Fi} {n : List UInt8} {g1 g2 g3 : Fi → Fi} (h1 : ∀ f, (g1 f).name = f.name) (h : ∀ f, g2 (g1 f) = g3 f) : setF (setF fs n g1) n g2 = setF fs n g3 := by
  unfold setF
  rw [List.map_map]
  refine List.map_congr_left fun f _ => ?_
  show (if (if f.name = n then g1 f else f).name = n then g2 (if f.name = n then g1 f else f) else (if f.name = n then g1 f else f)) = _
  by_cases e : f.name = n
  · rw [if_pos e, if_pos (by rw [h1]; exact e), if_pos e, h]
  · rw [if_neg e, if_neg e, if_neg e]
theorem mem_setF_of {fs : List Fi} {f : Fi} (hf : f ∈ fs) (g : Fi → Fi) : g f ∈ setF fs f.name g := by
  unfold setF
  exact List.mem_map.2 ⟨f, hf, if_pos rfl⟩
theorem cutTo_eq {S : Dk} (h : (S.fs.map Fi.name).Nodup) {f : Fi} (hf : f ∈ S.fs) {z : Nat} {L L2 : List UInt8} (hL : L = f.now.take z) (hL2 : L2 = f.lasts.take z) :
    S.cutTo f.name z = { S with fs := setF (setF S.fs f.name fun g => { g with now := L }) f.name fun g => { g with lasts := L2 }, loose := fun s j => S.loose s j && !(s == f.name && decide ((sectors z : Int) ≤ j)) } := by
  have e : setF S.fs f.name (fun g => { g with now := g.now.take z, lasts := g.lasts.take z }) = setF (setF S.fs f.name fun g => { g with now := L }) f.name fun g => { g with lasts := L2 } := by
    rw [setF_setF (g1 := fun g => { g with now := L }) (g2 := fun g => { g with lasts := L2 }) (g3 := fun g => { g with now := L, lasts := L2 }) (fun _ => rfl) (fun _ => rfl)]
    exact setF_congr h hf (by rw [hL, hL2])
  unfold Dk.cutTo
  rw [e]
section
variable {w : World} {B d : Nat} {o : Own1} {S : Dk} {c : Con}
theorem dout_begin' {w0 w1 w' : World} (h : DI w B o d S c) (g0 : w.grownBy w0 none) (h1 : DI w1 B o d S.begin c) (g1 : w0.grownBy w1 (some d)) (g2 : w1.grownBy w' none) : DOut o w B d S.begin w' :=
  ⟨o, c, h1.ext g2, ((Ch.ext g0).trans (Ch.of_gr g1 (fun k e => by cases e; rw [h.tD]; simp))).trans (Ch.ext g2)⟩
end
end Go.Proofs.Ytkfokgjpeaibpaa

/- A disk: Write. -/
namespace Go.Proofs.Ytkfokgjpeaibpaa
open Go.RowKit
set_option maxRecDepth 100000
set_option maxHeartbeats 400000

theorem overZ_over (l : List UInt8) (p : Nat) (m : List UInt8) : overZ l p m = over l p m := rfl
/-- bytes behind others, and noughts where there is a gap: none here. -/
theorem over_grown {l b : List UInt8} {p : Nat} (hp : p ≤ l.length) : over (l ++ List.replicate (max l.length (p + b.length) - l.length) 0) p b = overZ l p b := by
  unfold over overZ
  rw [List.take_append_of_le_length hp]
  congr 1
  rw [List.drop_append]
  have : List.drop (p + b.length - l.length) (List.replicate (max l.length (p + b.length) - l.length) (0 : UInt8)) = [] := List.drop_of_length_le (by simp; omega)
  rw [this, List.append_nil]
theorem hits_zero (off : Nat) (k : Int) : hits off 0 k = false := rfl
theorem hits_succ (off n : Nat) (k : Int) : hits off (n + 1) k = (hits off n k || (((off + n) / 64 : Nat) : Int) == k) := by
  unfold hits
  rw [List.range_succ, List.any_append]
  simp
theorem setF_setF' {fs : List Fi} {n : List UInt8} {g1 g2 g3 : Fi → Fi} (h1 : ∀ f, (g1 f).name = f.name) (h : ∀ f, g2 (g1 f) = g3 f) : setF (setF fs n g1) n g2 = setF fs n g3 := by
  unfold setF
  rw [List.map_map]
  refine List.map_congr_left fun f _ => ?_
  show (if (if f.name = n then g1 f else f).name = n then g2 (if f.name = n then g1 f else f) else (if f.name = n then g1 f else f)) = _
  by_cases e : f.name = n
  · rw [if_pos e, if_pos (by rw [h1]; exact e), if_pos e, h]
  · rw [if_neg e, if_neg e, if_neg e]
theorem wrote_eq {S : Dk} (h : (S.fs.map Fi.name).Nodup) {f : Fi} (hf : f ∈ S.fs) {off : Nat} {b L1 L2 : List UInt8} (hL2 : L2 = overZ f.now off b) :
    S.wrote f.name off b = { S with fs := setF (setF S.fs f.name fun g => { g with now := L1 }) f.name fun g => { g with now := L2 }, loose := fun s k => (s == f.name && hits off b.length k) || S.loose s k, nl := S.nl + b.length } := by
  have e : setF S.fs f.name (fun g => { g with now := overZ g.now off b }) = setF (setF S.fs f.name fun g => { g with now := L1 }) f.name fun g => { g with now := L2 } := by
    rw [setF_setF' (g1 := fun g => { g with now := L1 }) (g2 := fun g => { g with now := L2 }) (g3 := fun g => { g with now := L2 }) (fun _ => rfl) (fun _ => rfl)]
    exact setF_congr h hf (by rw [hL2])
  unfold Dk.wrote
  rw [e]
section
variable {w w1 : World} {B d : Nat} {o : Own1} {S : Dk} {c : Con} {f : Fi}
/-- a file's list is made longer, and stored. -/
theorem DI.extNow (h : DI w B o d S c) (hf : f ∈ S.fs) {v : Value} {l : List UInt8} (hx : Ext0 w w1 (c.nv f.name) v) (hv : OwnB w1 B v l) (hl : l.length ≤ 16777216) :
    ∃ o', DI (w1.setCell ⟨c.fb f.name, 0, none⟩ v) B o' d { S with fs := setF S.fs f.name fun g => { g with now := l } } { c with nv := fun s => if s = f.name then v else c.nv s } ∧ Ch o w o' (w1.setCell ⟨c.fb f.name, 0, none⟩ v) := by
  obtain ⟨r, g, hr, hk⟩ := hx
  have hlt := h.ne_file hf
  have ht := h.tag f hf
  have hz := g.size
  have hrf : r ≠ some (c.fb f.name) := fun e => by
    have h1 := ht.now _ (hr _ e)
    rw [ht.file] at h1
    simp at h1
  have hb := ((h.file f hf).box.gr g hrf).set 0 v
  have hbk : ∀ k, blk v = some k → k ≠ c.fb f.name := fun k hk2 e => by
    subst e
    rcases hk _ hk2 with h1 | h1
    · have := ht.now _ h1; rw [ht.file] at this; simp at this
    · omega
  obtain ⟨o', c', hdi, hoo, rfl⟩ := h.setNow (w' := w1.setCell ⟨c.fb f.name, 0, none⟩ v) hf (by simpa [World.setCell] using hz) (fun i hi h3 h4 => by
      rw [heap_far _ _ _ (fun e => by rw [e] at h3; exact h3 ht.file)]
      exact g.block i (h.inb i hi).2 (fun e => h4 (ht.now i (hr i e.symm)))) v l hb
    (Own.same hv fun k hk2 => heap_far _ _ _ (hbk k hk2)) (fun k hk2 => (hk k hk2).imp (ht.now k) id) hl
  refine ⟨o', hdi, ⟨g.os, g.tape, g.output, by simpa [World.setCell] using hz, fun i hi h0 => ?_, fun i hi h0 => by rw [hoo i hi]; exact h0⟩⟩
  rw [heap_far _ _ _ (fun e => by rw [e] at h0; have := ht.file; simp at h0; rw [h0] at this; cases this)]
  exact g.block i hi (fun e => by have := ht.now i (hr i e.symm); rw [h0] at this; cases this)
/-- a file's list is written in. -/
theorem DI.inNow (h : DI w B o d S c) (hf : f ∈ S.fs) {l : List UInt8} (hx : Ext0 w w1 (c.nv f.name) (c.nv f.name)) (hv : OwnB w1 B (c.nv f.name) l) (hl : l.length ≤ 16777216) :
    ∃ o' c', DI w1 B o' d { S with fs := setF S.fs f.name fun g => { g with now := l } } c' ∧ Ch o w o' w1 ∧ c'.lb = c.lb ∧ o' c.lb ≠ none := by
  obtain ⟨r, g, hr, hk⟩ := hx
  have ht := h.tag f hf
  have hrf : r ≠ some (c.fb f.name) := fun e => by
    have h1 := ht.now _ (hr _ e)
    rw [ht.file] at h1
    simp at h1
  obtain ⟨o', c', hdi, hoo, rfl⟩ := h.setNow (w' := w1) hf g.size (fun i hi h3 h4 => g.block i (h.inb i hi).2 (fun e => h4 (ht.now i (hr i e.symm)))) _ l ((h.file f hf).box.gr g hrf) hv (fun k hk2 => (hk k hk2).imp (ht.now k) id) hl
  exact ⟨o', _, hdi, ⟨g.os, g.tape, g.output, g.size, fun i hi h0 => g.block i hi (fun e => by have := ht.now i (hr i e.symm); rw [h0] at this; cases this), fun i hi h0 => by rw [hoo i hi]; exact h0⟩, rfl, by rw [hoo _ (h.inb _ (by rw [h.tL]; simp)).2, h.tL]; simp⟩
/-- copy(v[p:], x), at the operation. -/
theorem wp_copyB {ops : Array Oper} {rest : List Oper} {q : Oper} {a : Act} {Q : Exit → Act → World → Prop} (hgd : q.guard = none) (s0 x0 : Operand)
    (ho : q.op = .call { callee := .builtin .copy, args := #[s0, x0], argTypes := #[27, 27] }) {p n cp n0 : Nat} {A : Option Addr} {cc : Nat} {l m : List UInt8} (hn0 : n0 = l.length) (hn : n = n0 - p) (hc : cp = cc - p)
    (hs : a.eval s0 = .slice (cutA A cc p 1) n cp) (hown : OwnB w B (.slice A n0 cc) l) (hpm : p + m.length ≤ l.length) {x : Value} (hx : a.eval x0 = x) (hr : RdB w x m)
    (h : ∀ w', OwnB w' B (.slice A n0 cc) (over l p m) → Ext0 w w' (.slice A n0 cc) (.slice A n0 cc) → wpList Try.prog ops Q rest (a.put q.dst (.int .i64 m.length)) w') : wpList Try.prog ops Q (q :: rest) a w := by
  refine wpList_plain hgd fun K hK => ?_
  subst hn0 hn hc
  obtain ⟨w', hrun, h1, h2⟩ := run_copyB w q.type B p A cc l m hown hpm x hr
  unfold Oper.wp execOp
  simp only [ho, resolve, invoke, builtin, Sem.run_bind, Sem.run_pure, Result.andThen_ok, List.map_toArray, List.map_cons, List.map_nil, hs, hx, hrun]
  exact hK _ _ (h w' h1 h2)
/-- append of noughts, in a region. -/
theorem step_appZ {q : Oper} {a : Act} {K : Act → World → Prop} {Q : Exit → Act → World → Prop} (s0 x0 : Operand) (ho : q.op = .call { callee := .builtin .append, args := #[s0, x0], argTypes := #[27, 3] })
    {v v' : Value} {M : Int} {w' : World} (hs : a.eval s0 = v) (hx : a.eval x0 = .int .i64 M) (hrun : (Builtin.append_ #[27, 3] q.type #[v, .int .i64 M]).run Try.prog w = .ok v' w') (hK : K (a.put q.dst v') w') : q.wp Try.prog a w K Q := by
  unfold Oper.wp execOp
  simp only [ho, resolve, invoke, builtin, Sem.run_bind, Sem.run_pure, Result.andThen_ok, List.map_toArray, List.map_cons, List.map_nil, hs, hx, hrun]
  exact hK
end
end Go.Proofs.Ytkfokgjpeaibpaa
