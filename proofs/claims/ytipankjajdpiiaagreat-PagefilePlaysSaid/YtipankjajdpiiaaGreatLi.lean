/-
  A map of names to slices of the call's own (disk.On's 'left').
-/
import Derived.Test.YtipankjajdpiiaaGreatVm
import Derived.Test.YtipankjajdpiiaaGreatDw1
import Derived.Test.YtipankjajdpiiaaGreatSec
import Derived.Maps.OwnSet
namespace Go.Proofs.YtipankjajdpiiaaGreat
open Go.RowKit Go.Maps
set_option maxRecDepth 100000

abbrev Nm := { s : List UInt8 // s.length ≤ maxLen }
def strK : KeyK Tryz.prog 9 Nm where
  kv x := .string ⟨x.1.toArray⟩
  kl x := .string x.1
  key x := keyS x.2
  inv v l h := by
    obtain ⟨s, rfl, rfl, hs⟩ := keyS_inv h
    exact ⟨⟨s, hs⟩, rfl, rfl⟩
  inj x y h := Subtype.ext (by simpa using h)
  isK _ := trivial
  keyed := Tryz.keyedS
def domL (has : List UInt8 → Bool) (val : List UInt8 → Value) : Nm → Option Value := fun x => if has x.1 = true then some (val x.1) else none
structure LI (w : World) (B m n : Nat) (has : List UInt8 → Bool) (val : List UInt8 → Value) (L : List UInt8 → List UInt8) (q : Nat → Option (List UInt8)) : Prop where
  map : VM strK w m n (domL has val)
  own : ∀ s, has s = true → OwnB w B (val s) (L s)
  tag : ∀ s, has s = true → ∀ b, blk (val s) = some b → q b = some s
  inb : ∀ i, q i ≠ none → B ≤ i ∧ i < w.heap.size ∧ i ≠ m
  mB : B ≤ m
/-- what is s's alone, and new blocks, were written. -/
structure Tn (q : Nat → Option (List UInt8)) (s : List UInt8) (w w' : World) : Prop where
  os : w'.os = w.os
  tape : w'.tape = w.tape
  output : w'.output = w.output
  size : w.heap.size ≤ w'.heap.size
  block : ∀ i, i < w.heap.size → q i ≠ some s → w'.heap[i]? = w.heap[i]?
section
variable {w w' w'' : World} {B m n : Nat} {has : List UInt8 → Bool} {val : List UInt8 → Value} {L : List UInt8 → List UInt8} {q : Nat → Option (List UInt8)} {s : List UInt8}
theorem Tn.of_gr {r : Option Nat} (h : w.grownBy w' r) (hr : ∀ k, r = some k → q k = some s ∨ w.heap.size ≤ k) : Tn q s w w' :=
  ⟨h.os, h.tape, h.output, h.size, fun i hi hq => h.block i hi (fun e => by rcases hr i e.symm with h | h; exact hq h; omega)⟩
/-- a second write, to a block of s's or to one that is new since w. -/
theorem Tn.more {r : Option Nat} (h : Tn q s w w') (k : w'.grownBy w'' r) (hr : ∀ j, r = some j → q j = some s ∨ w.heap.size ≤ j) : Tn q s w w'' :=
  ⟨k.os.trans h.os, k.tape.trans h.tape, k.output.trans h.output, Nat.le_trans h.size k.size, fun i hi hq => (k.block i (Nat.lt_of_lt_of_le hi h.size) (fun e => by rcases hr i e.symm with h | h; exact hq h; omega)).trans (h.block i hi hq)⟩
theorem LI.lt (h : LI w B m n has val L q) : m < w.heap.size := h.map.lt
theorem LI.ext (h : LI w B m n has val L q) (hg : w.grownBy w' none) : LI w' B m n has val L q :=
  ⟨h.map.ext hg, fun s hs => (h.own s hs).ext hg, h.tag, fun i hi => ⟨(h.inb i hi).1, Nat.lt_of_lt_of_le (h.inb i hi).2.1 hg.size, (h.inb i hi).2.2⟩, h.mB⟩
theorem LI.mono (h : LI w B m n has val L q) {n' : Nat} (hn : n ≤ n') : LI w B m n' has val L q := { h with map := h.map.mono hn }
theorem LI.made (w : World) (B : Nat) (hB : B ≤ w.heap.size) (val : List UInt8 → Value) (L : List UInt8 → List UInt8) : LI (w.alloc (.map #[] 0)) B w.heap.size 0 (fun _ => false) val L (fun _ => none) :=
  ⟨VM.made strK w, fun s h => (by cases h), fun s h => (by cases h), fun i h => absurd rfl h, hB⟩
/-- m[s] = v, where v's cells are s's own or new. -/
theorem LI.turn (h : LI w B m n has val L q) (ht : Tn q s w w') {v : Value} {l : List UInt8} (hv : OwnB w' B v l) (hb : ∀ b, blk v = some b → q b = some s ∨ w.heap.size ≤ b) (hs : s.length ≤ maxLen) (hg2 : w'.grownBy w'' (some m))
    (hm : VM strK w'' m (n + 1) (fun z => if z = (⟨s, hs⟩ : Nm) then some v else domL has val z)) :
    ∃ q', LI w'' B m (n + 1) (fun x => has x || x == s) (fun x => if x = s then v else val x) (fun x => if x = s then l else L x) q' ∧ (∀ i, i < w.heap.size → q' i = q i) := by
  have hfr : ∀ i, w.heap.size ≤ i → q i = none := fun i hi => by
    cases e : q i with
    | none => rfl
    | some t => exact absurd (h.inb i (by rw [e]; simp)).2.1 (by omega)
  have hmlt := h.lt
  have hbm : ∀ b, blk v = some b → b ≠ m := fun b hb' e => by
    rcases hb b hb' with h1 | h1
    · exact (h.inb b (by rw [h1]; simp)).2.2 e
    · omega
  obtain ⟨q', hq'⟩ : ∃ q' : Nat → Option (List UInt8), q' = fun i => if w.heap.size ≤ i then (if blk v = some i then some s else none) else q i := ⟨_, rfl⟩
  have hold : ∀ i, i < w.heap.size → q' i = q i := fun i hi => by rw [hq']; exact if_neg (by omega)
  have hvt : ∀ b, blk v = some b → q' b = some s := fun b hb' => by
    rcases hb b hb' with h1 | h1
    · rw [hold b (h.inb b (by rw [h1]; simp)).2.1]; exact h1
    · rw [hq']; show (if w.heap.size ≤ b then (if blk v = some b then some s else none) else q b) = _
      rw [if_pos h1, if_pos hb']
  refine ⟨q', ⟨?_, fun x hx => ?_, fun x hx b hb' => ?_, fun i hi => ?_, h.mB⟩, hold⟩
  · refine (show (fun z => if z = (⟨s, hs⟩ : Nm) then some v else domL has val z) = domL (fun x => has x || x == s) (fun x => if x = s then v else val x) from ?_) ▸ hm
    funext z
    obtain ⟨z, hz⟩ := z
    unfold domL
    by_cases e : z = s
    · subst e
      rw [if_pos rfl, if_pos (by simp)]
      show some v = some (if z = z then v else val z)
      rw [if_pos rfl]
    · have : ¬ (⟨z, hz⟩ : Nm) = ⟨s, hs⟩ := fun e' => e (by simpa using e')
      rw [if_neg this]
      simp [e]
  · show OwnB w'' B (if x = s then v else val x) (if x = s then l else L x)
    by_cases e : x = s
    · rw [if_pos e, if_pos e]
      exact Own.off hv hg2 (fun k hk => by cases hk; exact fun hb' => hbm m hb' rfl)
    · rw [if_neg e, if_neg e]
      have hx' : has x = true := by simpa [e] using hx
      refine Own.same (h.own x hx') fun k hk => ?_
      have hkt := h.tag x hx' k hk
      have hk2 := h.inb k (by rw [hkt]; simp)
      rw [hg2.block k (Nat.lt_of_lt_of_le hk2.2.1 ht.size) (fun e' => hk2.2.2 (by cases e'; rfl)), ht.block k hk2.2.1 (fun e' => e (by rw [hkt] at e'; simpa using e'))]
  · have hb2 : blk (if x = s then v else val x) = some b := hb'
    by_cases e : x = s
    · rw [if_pos e] at hb2
      rw [hvt b hb2, e]
    · rw [if_neg e] at hb2
      have hx' : has x = true := by simpa [e] using hx
      have hkt := h.tag x hx' b hb2
      rw [hold b (h.inb b (by rw [hkt]; simp)).2.1, hkt]
  · by_cases hlt : i < w.heap.size
    · rw [hold i hlt] at hi
      exact ⟨(h.inb i hi).1, Nat.lt_of_lt_of_le hlt (Nat.le_trans ht.size hg2.size), (h.inb i hi).2.2⟩
    · rw [hq'] at hi
      have hi2 : (if w.heap.size ≤ i then (if blk v = some i then some s else none) else q i) ≠ none := hi
      rw [if_pos (by omega)] at hi2
      by_cases hbv : blk v = some i
      · have hlt2 := Own.blk_lt hv (by omega) hbv
        exact ⟨hlt2.1, Nat.lt_of_lt_of_le hlt2.2 hg2.size, hbm i hbv⟩
      · rw [if_neg hbv] at hi2; exact absurd rfl hi2
end
end Go.Proofs.YtipankjajdpiiaaGreat

/- On: the map of loose sectors is cleared; files are stored in the places of others. -/
namespace Go.Proofs.YtipankjajdpiiaaGreat
open Go.RowKit Go.Maps
set_option maxRecDepth 100000

section
variable {w w' : World} {m n : Nat} {dom : List UInt8 → Option Nat} {L : List UInt8 → Int → Bool}
/-- clear(m). -/
theorem wp_lm_clear {ops : Array Oper} {rest : List Oper} {o : Oper} {a : Act} {Q : Exit → Act → World → Prop} (hg : o.guard = none) (mm : Operand) (hop : o.op = .call { callee := .builtin .clear, args := #[mm], argTypes := #[72] })
    (h : LM w m n L) (hm : a.eval mm = .map (some m))
    (hK : ∀ w', LM w' m 0 (fun _ _ => false) → w.grownBy w' (some m) → wpList Tryz.prog ops Q rest (a.put o.dst (.tuple #[])) w') : wpList Tryz.prog ops Q (o :: rest) a w := by
  obtain ⟨D, h, h0⟩ := h
  obtain ⟨es, clock, hb, F, _, _⟩ := h
  have hlt : m < w.heap.size := by
    rcases Nat.lt_or_ge m w.heap.size with h | h
    · exact h
    · rw [Array.getElem?_eq_none h] at hb; cases hb
  refine wpList_plain hg fun K hK' => ?_
  have hrun : (Builtin.clear_ #[72] o.type #[.map (some m)]).run Tryz.prog w = .ok (.tuple #[]) { w with heap := w.heap.setIfInBounds m (.map #[] clock) } := by
    simp [Builtin.clear_, run_underlying Tryz.underlying72, Go.MapKept.run_getObj_map hb, Go.MapKept.run_setObj_map _ hb, Result.andThen]
  unfold Oper.wp execOp
  simp only [hop, resolve, invoke, builtin, Sem.run_bind, Sem.run_pure, Result.andThen_ok, List.map_toArray, List.map_cons, List.map_nil, hm, hrun]
  refine hK' _ _ (hK _ ⟨.map [], ⟨#[], clock, ?_, ⟨by simp, Go.MapKept.stamped_empty clock, by simp⟩, Nat.le_refl _, rfl⟩, fun _ _ _ => rfl⟩ ⟨rfl, rfl, rfl, by simp, fun i hi hne => ?_⟩)
  · show (w.heap.setIfInBounds m (.map #[] clock))[m]? = _
    simp [hlt]
  · show (w.heap.setIfInBounds m (.map #[] clock))[i]? = _
    rw [Array.getElem?_setIfInBounds, if_neg (fun e => hne (by rw [e]))]
theorem size_put_le {H : Type} {D : DataW H} {kl : Lit} {x : DataW H} (hD : IsMap D) (h : has D kl = true) : Maps.size (D.put kl x) ≤ Maps.size D := by
  obtain ⟨es, rfl⟩ := hD
  rw [has_eq, List.any_eq_true] at h
  obtain ⟨p, hp, hs⟩ := h
  show (DataW.insert (kl, x) (es.filter fun p => !p.1.sameKey kl)).length ≤ es.length
  rw [length_insert]
  have := List.length_filter_lt_length_iff_exists (p := fun p : Lit × DataW H => !p.1.sameKey kl) (l := es) |>.2 ⟨p, hp, by simp [hs]⟩
  omega
/-- m[s] = &.., where there was one: the map grows no longer. -/
theorem wp_fm_reput {ops : Array Oper} {rest : List Oper} {o : Oper} {a : Act} {Q : Exit → Act → World → Prop} (hg : o.guard = none) (mm x v : Operand) (hop : o.op = .mapUpdate 71 mm x v)
    (h : FM w m n dom) (hm : a.eval mm = .map (some m)) (hn : n < maxLen) {s : List UInt8} (hs : s.length ≤ maxLen) (hin : dom s ≠ none) (hx : a.eval x = .string ⟨s.toArray⟩) (b : Nat) (hv : a.eval v = .pointer (some ⟨b, 0, none⟩))
    (hK : ∀ w', FM w' m n (fun x => if x = s then some b else dom x) → w.grownBy w' (some m) → wpList Tryz.prog ops Q rest (a.put o.dst undef) w') : wpList Tryz.prog ops Q (o :: rest) a w := by
  obtain ⟨D, h, h0, h1⟩ := h
  refine wpList_mapUpdate_own w hg mm x v _ hop 9 97 Tryz.keyedS Tryz.underlying71 ptrElem m n D hm h hn _ _ _ hx hv (keyS hs) (.lit (.int .i64 b)) [] rfl
    fun w' h' g' => hK w' ?_ g'
  obtain ⟨b0, hb0⟩ := Option.ne_none_iff_exists'.1 hin
  have hsz := size_put_le (x := (.lit (.int .i64 b) : Dt)) (FM.isMap h) (h1 s b0 hb0).2.1
  have hle := h.size_le
  obtain ⟨D', k1, k2, k3⟩ := FM.of_put (FM.isMap h) h0 h1 hs b h'
  obtain ⟨es, clock, q1, q2, q3, q4⟩ := h'
  have hes : es.size ≤ n := by
    have : Maps.size (D.put (.string s) (.lit (.int .i64 b))) = es.size := by rw [q4]; simp [Maps.size, Go.length_sorted]
    omega
  obtain ⟨D2, j1, j2, j3⟩ := FM.of_put (FM.isMap h) h0 h1 hs b (⟨es, clock, q1, q2, Nat.le_trans hes (Nat.le_succ n), q4⟩ : w'.ownsMap Tryz.prog 9 ptrElem m (n + 1) (D.put (.string s) (.lit (.int .i64 b))))
  obtain ⟨es2, clock2, p1, p2, p3, p4⟩ := j1
  have : es2 = es := by rw [q1] at p1; cases p1; rfl
  subst this
  exact ⟨D2, ⟨es2, clock2, p1, p2, hes, p4⟩, j2, j3⟩
end
end Go.Proofs.YtipankjajdpiiaaGreat

/- On: the disk that comes out. -/
namespace Go.Proofs.YtipankjajdpiiaaGreat
open Go.RowKit Go.Maps
set_option maxRecDepth 100000

theorem find_at {S : Dk} (hn : (S.fs.map Fi.name).Nodup) {f : Fi} (hf : f ∈ S.fs) : S.find f.name = some f := by
  unfold Dk.find
  exact find_mem hn hf
theorem has_at {S : Dk} (hn : (S.fs.map Fi.name).Nodup) {f : Fi} (hf : f ∈ S.fs) : S.has f.name = true := by
  unfold Dk.has
  rw [find_at hn hf]; rfl
/-- files of the map left are stored in the disk's map. -/
structure Bx (w : World) (B : Nat) (c : Con) (S : Dk) (T : List UInt8 → List UInt8) (done : List UInt8 → Bool) (o : Own1) : Prop where
  fm : FM w c.mb S.fs.length (domOf S.fs c.fb)
  now : ∀ f ∈ S.fs, OwnB w B (c.nv f.name) (T f.name) ∧ ∀ b, blk (c.nv f.name) = some b → o b = some (4, f.name)
  box : ∀ f ∈ S.fs, done f.name = true → Blk w (c.fb f.name) 96 #[c.nv f.name, c.lv f.name] ∧ OwnB w B (c.lv f.name) (T f.name) ∧ o (c.fb f.name) = some (3, f.name) ∧ ∀ b, blk (c.lv f.name) = some b → o b = some (5, f.name)
  inb : ∀ i, o i ≠ none → B ≤ i ∧ i < w.heap.size
  mb : c.mb < B
section
variable {w w3 w4 : World} {B d : Nat} {o : Own1} {S : Dk} {c : Con} {T : List UInt8 → List UInt8} {done : List UInt8 → Bool}
theorem Bx.start {m n : Nat} {val : List UInt8 → Value} {q : Nat → Option (List UInt8)} (h : LI w B m n S.has val T q) (hn : (S.fs.map Fi.name).Nodup) (hf : FM w c.mb S.fs.length (domOf S.fs c.fb)) (hmb : c.mb < B) :
    Bx w B { c with nv := val } S T (fun _ => false) (fun i => (q i).map fun s => (4, s)) := by
  refine ⟨hf, fun f hff => ⟨h.own _ (has_at hn hff), fun b hb => ?_⟩, fun f _ hd => (by cases hd), fun i hi => ?_, hmb⟩
  · show (q b).map _ = _
    rw [h.tag _ (has_at hn hff) b hb]; rfl
  · have : q i ≠ none := fun e => hi (by show (q i).map _ = none; rw [e]; rfl)
    exact ⟨(h.inb i this).1, (h.inb i this).2.1⟩
theorem Bx.ext (h : Bx w B c S T done o) (hg : w.grownBy w3 none) : Bx w3 B c S T done o :=
  ⟨h.fm.gr hg (by simp), fun f hf => ⟨(h.now f hf).1.ext hg, (h.now f hf).2⟩, fun f hf hd => ⟨(h.box f hf hd).1.ext hg, (h.box f hf hd).2.1.ext hg, (h.box f hf hd).2.2⟩, fun i hi => ⟨(h.inb i hi).1, Nat.lt_of_lt_of_le (h.inb i hi).2 hg.size⟩, h.mb⟩
theorem Bx.off (h : Bx w B c S T done o) {r : Nat} (hg : w.grownBy w3 (some r)) (hr : o r = none) (hm : r ≠ c.mb) : Bx w3 B c S T done o := by
  have hs : ∀ i, o i ≠ none → w3.heap[i]? = w.heap[i]? := fun i hi => hg.block i (h.inb i hi).2 (fun e => by cases e; exact hi hr)
  exact ⟨h.fm.gr hg (fun e => hm (by cases e; rfl)), fun f hf => ⟨Own.same (h.now f hf).1 fun b hb => hs b (by rw [(h.now f hf).2 b hb]; simp), (h.now f hf).2⟩,
    fun f hf hd => ⟨(h.box f hf hd).1.same (hs _ (by rw [(h.box f hf hd).2.2.1]; simp)), Own.same (h.box f hf hd).2.1 fun b hb => hs b (by rw [(h.box f hf hd).2.2.2 b hb]; simp), (h.box f hf hd).2.2⟩,
    fun i hi => ⟨(h.inb i hi).1, Nat.lt_of_lt_of_le (h.inb i hi).2 hg.size⟩, h.mb⟩
theorem Bx.step (h : Bx w B c S T done o) (hn : (S.fs.map Fi.name).Nodup) (hB : B ≤ w.heap.size) {f : Fi} (hf : f ∈ S.fs) (g3 : w.grownBy w3 none) {k : Nat} {v : Value} (hk : w.heap.size ≤ k) (hv : OwnB w3 w.heap.size v (T f.name)) (hne : blk v ≠ some k)
    (hb : Blk w3 k 96 #[c.nv f.name, v]) (g4 : w3.grownBy w4 (some c.mb)) (hm : FM w4 c.mb S.fs.length (fun x => if x = f.name then some k else domOf S.fs c.fb x)) :
    ∃ o', Bx w4 B { c with fb := fun s => if s = f.name then k else c.fb s, lv := fun s => if s = f.name then v else c.lv s } S T (fun x => done x || x == f.name) o' ∧ ∀ i, i < w.heap.size → o' i = o i := by
  obtain ⟨o', ho'⟩ : ∃ o' : Own1, o' = fun i => if w.heap.size ≤ i then (if i = k then some (3, f.name) else if blk v = some i then some (5, f.name) else none) else o i := ⟨_, rfl⟩
  have hold : ∀ i, i < w.heap.size → o' i = o i := fun i hi => by rw [ho']; exact if_neg (by omega)
  have ho2 : ∀ i t, o i = some t → o' i = some t := fun i t e => by rw [hold i (h.inb i (by rw [e]; simp)).2]; exact e
  have hmb := h.mb
  have hbk : ∀ b, blk v = some b → w.heap.size ≤ b ∧ b < w3.heap.size := fun b hb' => Own.blk_lt hv (by omega) hb'
  have same : ∀ i, o i ≠ none → w4.heap[i]? = w.heap[i]? := fun i hi => by
    have := h.inb i hi
    rw [g4.block i (Nat.lt_of_lt_of_le this.2 g3.size) (fun e => by cases e; omega), g3.block i this.2 (by simp)]
  have hk3 : k < w3.heap.size := hb.lt
  have fresh : ∀ i, w.heap.size ≤ i → i < w3.heap.size → w4.heap[i]? = w3.heap[i]? := fun i h1 h2 => g4.block i h2 (fun e => by cases e; omega)
  have hnd : ∀ g ∈ S.fs, g.name = f.name → g = f := fun g hg e => nodup_name hn hg hf e
  refine ⟨o', ⟨?_, fun g hg => ?_, fun g hg hd => ?_, fun i hi => ?_, hmb⟩, hold⟩
  · refine (show (fun x => if x = f.name then some k else domOf S.fs c.fb x) = domOf S.fs (fun s => if s = f.name then k else c.fb s) from ?_) ▸ hm
    funext x
    unfold domOf
    by_cases e : x = f.name
    · subst e
      rw [if_pos rfl, find_mem hn hf]
      show some k = some (if f.name = f.name then k else c.fb f.name)
      rw [if_pos rfl]
    · rw [if_neg e]
      show Option.map (fun _ => c.fb x) _ = Option.map (fun _ => if x = f.name then k else c.fb x) _
      rw [if_neg e]
  · obtain ⟨h1, h2⟩ := h.now g hg
    exact ⟨Own.same h1 fun b hb' => same b (by rw [h2 b hb']; simp), fun b hb' => ho2 _ _ (h2 b hb')⟩
  · by_cases e : g.name = f.name
    · obtain rfl := hnd g hg e
      show Blk w4 (if g.name = g.name then k else c.fb g.name) _ #[c.nv g.name, if g.name = g.name then v else c.lv g.name] ∧ OwnB w4 B (if g.name = g.name then v else c.lv g.name) (T g.name) ∧ o' (if g.name = g.name then k else c.fb g.name) = _ ∧ ∀ b, blk (if g.name = g.name then v else c.lv g.name) = some b → _
      simp only [if_true]
      refine ⟨hb.same (fresh k hk hk3), Own.mono (Own.same hv fun b hb' => fresh b (hbk b hb').1 (hbk b hb').2) hB, ?_, fun b hb' => ?_⟩
      · rw [ho']; show (if w.heap.size ≤ k then (if k = k then _ else _) else _) = _
        rw [if_pos hk, if_pos rfl]
      · rw [ho']; show (if w.heap.size ≤ b then (if b = k then _ else if blk v = some b then _ else _) else _) = _
        rw [if_pos (hbk b hb').1, if_neg (fun e => hne (by rw [hb', e])), if_pos hb']
    · have hd' : done g.name = true := by
        have : (done g.name || g.name == f.name) = true := hd
        simpa [e] using this
      obtain ⟨h1, h2, h3, h4⟩ := h.box g hg hd'
      show Blk w4 (if g.name = f.name then k else c.fb g.name) _ #[c.nv g.name, if g.name = f.name then v else c.lv g.name] ∧ OwnB w4 B (if g.name = f.name then v else c.lv g.name) (T g.name) ∧ o' (if g.name = f.name then k else c.fb g.name) = _ ∧ ∀ b, blk (if g.name = f.name then v else c.lv g.name) = some b → _
      simp only [if_neg e]
      exact ⟨h1.same (same _ (by rw [h3]; simp)), Own.same h2 fun b hb' => same b (by rw [h4 b hb']; simp), ho2 _ _ h3, fun b hb' => ho2 _ _ (h4 b hb')⟩
  · by_cases hlt : i < w.heap.size
    · rw [hold i hlt] at hi
      exact ⟨(h.inb i hi).1, Nat.lt_of_lt_of_le hlt (Nat.le_trans g3.size g4.size)⟩
    · rw [ho'] at hi
      have hi2 : (if w.heap.size ≤ i then (if i = k then some (3, f.name) else if blk v = some i then some (5, f.name) else none) else o i) ≠ none := hi
      rw [if_pos (by omega)] at hi2
      refine ⟨by omega, Nat.lt_of_lt_of_le ?_ g4.size⟩
      by_cases e1 : i = k
      · rw [e1]; exact hk3
      · rw [if_neg e1] at hi2
        by_cases e2 : blk v = some i
        · exact (hbk i e2).2
        · rw [if_neg e2] at hi2; exact absurd rfl hi2
theorem lit_dom (S : Dk) (T : List UInt8 → List UInt8) (fb : List UInt8 → Nat) : domOf (S.lit T).fs fb = domOf S.fs fb := by
  funext x
  unfold domOf Dk.lit
  show Option.map _ ((S.fs.map fun f => (⟨f.name, T f.name, T f.name⟩ : Fi)).find? _) = _
  rw [List.find?_map, Option.map_map]
  rfl
theorem lit_find {S : Dk} {T : List UInt8 → List UInt8} {s : List UInt8} {f : Fi} (h : S.find s = some f) : (S.lit T).find s = some ⟨f.name, T f.name, T f.name⟩ := by
  unfold Dk.find Dk.lit at *
  show ((S.fs.map fun f => (⟨f.name, T f.name, T f.name⟩ : Fi)).find? _) = _
  rw [List.find?_map]
  show Option.map _ (S.fs.find? fun f => f.name == s) = _
  rw [h]; rfl
theorem Bx.fin {w0 : World} {B0 : Nat} {o0 : Own1} {c0 : Con} (h0 : DI w0 B0 o0 d S c0) (h : Bx w B c S T done o) (hB : B = w0.heap.size) (hcm : c.mb = c0.mb) (hcl : c.lb = c0.lb) (hdone : ∀ f ∈ S.fs, done f.name = true) (hz : w0.heap.size ≤ w.heap.size)
    (hself : Blk w d 74 (selfC c S.quota 0 false)) (hlm : LM w c.lb 0 (fun _ _ => false)) (hlen : ∀ s, (T s).length ≤ 16777216)
    (hos : w.os = w0.os) (htp : w.tape = w0.tape) (hou : w.output = w0.output) (hfr : ∀ i, i < w0.heap.size → i ≠ d → i ≠ c.mb → i ≠ c.lb → w.heap[i]? = w0.heap[i]?) :
    ∃ o', DI w B0 o' d (S.lit T) c ∧ Ch o0 w0 o' w := by
  subst hB
  obtain ⟨o', ho'⟩ : ∃ o' : Own1, o' = fun i => if i < w0.heap.size then (if i = d ∨ i = c.mb ∨ i = c.lb then o0 i else none) else o i := ⟨_, rfl⟩
  have hd := h0.inb d (by rw [h0.tD]; simp)
  have hm := h0.inb c0.mb (by rw [h0.tM]; simp)
  have hl := h0.inb c0.lb (by rw [h0.tL]; simp)
  have hbase : B0 ≤ w0.heap.size := by omega
  have hnew : ∀ i t, o i = some t → o' i = some t := fun i t e => by
    have := h.inb i (by rw [e]; simp)
    rw [ho']; show (if i < w0.heap.size then _ else o i) = _
    rw [if_neg (by omega)]; exact e
  have hold : ∀ i, i < w0.heap.size → (i = d ∨ i = c.mb ∨ i = c.lb) → o' i = o0 i := fun i hi h1 => by
    rw [ho']; show (if i < w0.heap.size then (if i = d ∨ i = c.mb ∨ i = c.lb then o0 i else none) else o i) = _
    rw [if_pos hi, if_pos h1]
  refine ⟨o', { self := hself, fm := ?_, lm := hlm, file := fun g hg => ?_, tag := fun g hg => ?_, names := ?_, tD := ?_, tM := ?_, tL := ?_, inb := fun i hi => ?_, lim := ⟨h0.lim.1, by show 0 ≤ _; omega⟩ }, ⟨hos, htp, hou, hz, fun i hi h1 => ?_, fun i hi h1 => ?_⟩⟩
  · rw [lit_dom]
    have : (S.lit T).fs.length = S.fs.length := by simp [Dk.lit]
    rw [this]; exact h.fm
  · obtain ⟨f, hf, rfl⟩ := List.mem_map.1 hg
    obtain ⟨h1, h2, h3, h4⟩ := h.box f hf (hdone f hf)
    exact ⟨h1, Own.mono (h.now f hf).1 hbase, Own.mono h2 hbase, (h0.file f hf).small.1, hlen _, hlen _⟩
  · obtain ⟨f, hf, rfl⟩ := List.mem_map.1 hg
    obtain ⟨h1, h2, h3, h4⟩ := h.box f hf (hdone f hf)
    exact ⟨hnew _ _ h3, fun b hb => hnew _ _ ((h.now f hf).2 b hb), fun b hb => hnew _ _ (h4 b hb)⟩
  · have : (S.lit T).fs.map Fi.name = S.fs.map Fi.name := by unfold Dk.lit; rw [List.map_map]; rfl
    rw [this]; exact h0.names
  · rw [hold d hd.2 (.inl rfl)]; exact h0.tD
  · rw [hold c.mb (by rw [hcm]; exact hm.2) (.inr (.inl rfl)), hcm]; exact h0.tM
  · rw [hold c.lb (by rw [hcl]; exact hl.2) (.inr (.inr rfl)), hcl]; exact h0.tL
  · by_cases hlt : i < w0.heap.size
    · refine ⟨?_, by omega⟩
      have hi2 : (if i < w0.heap.size then (if i = d ∨ i = c.mb ∨ i = c.lb then o0 i else none) else o i) ≠ none := by rw [ho'] at hi; exact hi
      rw [if_pos hlt] at hi2
      by_cases e : i = d ∨ i = c.mb ∨ i = c.lb
      · rw [if_pos e] at hi2; exact (h0.inb i hi2).1
      · rw [if_neg e] at hi2; exact absurd rfl hi2
    · have hi2 : (if i < w0.heap.size then (if i = d ∨ i = c.mb ∨ i = c.lb then o0 i else none) else o i) ≠ none := by rw [ho'] at hi; exact hi
      rw [if_neg hlt] at hi2
      have := h.inb i hi2
      omega
  · refine hfr i hi (fun e => ?_) (fun e => ?_) (fun e => ?_)
    · rw [e, h0.tD] at h1; cases h1
    · rw [e, hcm, h0.tM] at h1; cases h1
    · rw [e, hcl, h0.tL] at h1; cases h1
  · rw [ho']; show (if i < w0.heap.size then (if i = d ∨ i = c.mb ∨ i = c.lb then o0 i else none) else o i) = none
    rw [if_pos hi]
    split
    · exact h1
    · rfl
end
end Go.Proofs.YtipankjajdpiiaaGreat
