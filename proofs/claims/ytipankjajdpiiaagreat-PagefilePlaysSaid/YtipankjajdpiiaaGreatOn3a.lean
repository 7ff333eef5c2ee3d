/-
  disk.On: what its loops keep.
-/
import Derived.Test.YtipankjajdpiiaaGreatLi
import Derived.Test.YtipankjajdpiiaaGreatLoose
import Derived.Test.YtipankjajdpiiaaGreatOnC
import Derived.Deep.DeepCutAuto
import Derived.Test.YtipankjajdpiiaaGreatOct
import Derived.Deep.RegionHeld3
import Derived.Deep.DrawnRows
namespace Go.Proofs.YtipankjajdpiiaaGreat
open Go.RowKit Go.Maps
set_option maxRecDepth 100000
set_option maxHeartbeats 400000

theorem wp_fm_range2 {w : World} {m n : Nat} {dom : List UInt8 → Option Nat} {ops : Array Oper} {rest : List Oper} {o : Oper} {a : Act} {Q : Exit → Act → World → Prop} (hg : o.guard = none) (mm : Operand) (hop : o.op = .range 71 mm)
    (h : FM w m n dom) (hm : a.eval mm = .map (some m))
    (hK : ∀ w' left cnt, cnt ≤ n → FR w' m w.heap.size n dom left cnt → (∀ s b, dom s = some b → left s = true) → w.grownBy w' none → w'.heap.size = w.heap.size + 1 → wpList Tryz.prog ops Q rest (a.put o.dst (.pointer (some ⟨w.heap.size, 0, none⟩))) w') :
    wpList Tryz.prog ops Q (o :: rest) a w := by
  obtain ⟨D, h, h0, h1⟩ := h
  exact wpList_range_own w hg mm _ hop 9 97 Tryz.keyedS Tryz.underlying71 ptrElem m n D hm h
    fun w' r1 r2 r3 => hK w' (fun s => has D (.string s)) _ h.size_le ⟨D, _, r1, h0, h1, fun _ => rfl, fun _ e => e⟩ (fun s b e => (h1 s b e).2.1) r2 r3
/-- the list that Loose tells. -/
def LsIs (S : Dk) (ls : List Sec) : Prop := SecUp ls ∧ (∀ s k, okK s k → (S.loose s k = true ↔ ∃ p : UInt32, (⟨s, p⟩ : Sec) ∈ ls ∧ k = (p.toNat : Int))) ∧ ∀ x ∈ ls, okK x.name (x.page.toNat : Int)
def hasBut (S : Dk) (left : List UInt8 → Bool) : List UInt8 → Bool := fun x => S.has x && !left x
theorem hasBut_step {S : Dk} {left : List UInt8 → Bool} {s : List UInt8} (hs : S.has s = true) : (fun x => hasBut S left x || x == s) = hasBut S (fun x => left x && !(x == s)) := by
  funext x
  unfold hasBut
  by_cases e : x = s
  · subst e; simp [hs]
  · have : (x == s) = false := by simpa using e
    show ((S.has x && !left x) || x == s) = (S.has x && !(left x && !(x == s)))
    rw [this]; cases S.has x <;> cases left x <;> rfl
theorem OwnP.form {w : World} {B : Nat} {v : Value} {ls : List Sec} (h : OwnP w B v ls) : ∃ A c, v = .slice A ls.length c := by
  obtain ⟨_, A, c, _, _, e, _⟩ := h
  exact ⟨A, c, e⟩
theorem encs_at (l : List Sec) {k j : Nat} (hk : k < l.length) (hj : j < 2) : (l.flatMap Sec.enc)[k * 2 + j]? = (l[k].enc)[j]? := by
  induction l generalizing k with
  | nil => simp at hk
  | cons r l ih =>
    have hl : r.enc.length = 2 := rfl
    rw [List.flatMap_cons]
    cases k with
    | zero =>
      rw [List.getElem?_append_left (by omega)]
      simp
    | succ k =>
      rw [List.getElem?_append_right (by omega), hl, show (k + 1) * 2 + j - 2 = k * 2 + j from by omega]
      exact ih (by simpa using hk)
theorem OwnP.at_ {w : World} {B g off c : Nat} {ls : List Sec} (h : OwnP w B (.slice (some ⟨g, off, none⟩) ls.length c) ls) {k : Nat} (hk : k < ls.length) :
    w.cell? ⟨g, off + k * 2, none⟩ = some (.string ⟨ls[k].name.toArray⟩) ∧ w.cell? ⟨g, off + k * 2 + 1, none⟩ = some (.int .i64 (ls[k].page.toNat : Int)) := by
  obtain ⟨_, _, _, g', off', e, hn, hc, _, hA, _, hx, _⟩ := h
  cases e
  have := hA (by omega)
  cases this
  have h0 := hx (k * 2 + 0) (by omega)
  have h1 := hx (k * 2 + 1) (by omega)
  rw [encs_at ls hk (by omega)] at h0 h1
  exact ⟨h0, by rw [Nat.add_assoc]; exact h1⟩
theorem LI.off {w w' : World} {B m n : Nat} {has : List UInt8 → Bool} {val : List UInt8 → Value} {L : List UInt8 → List UInt8} {q : Nat → Option (List UInt8)} (h : LI w B m n has val L q) {r : Nat} (hg : w.grownBy w' (some r)) (hm : r ≠ m) (hq : q r = none) : LI w' B m n has val L q :=
  ⟨h.map.gr hg (fun e => hm (by cases e; rfl)), fun s hs => Own.off (h.own s hs) hg (fun k hk => by cases hk; exact fun hb => by have := h.tag s hs _ hb; rw [hq] at this; cases this), h.tag, fun i hi => ⟨(h.inb i hi).1, Nat.lt_of_lt_of_le (h.inb i hi).2.1 hg.size, (h.inb i hi).2.2⟩, h.mB⟩
theorem LI.cast {w : World} {B m n : Nat} {has has' : List UInt8 → Bool} {val : List UInt8 → Value} {L L' : List UInt8 → List UInt8} {q : Nat → Option (List UInt8)} (h : LI w B m n has val L q) (e1 : has = has') (e2 : L = L') : LI w B m n has' val L' q := by subst e1 e2; exact h
/-- the second loop: k of the loose sectors were looked at. -/
structure R2 (w : World) (S : Dk) (keep : List Int) (ls : List Sec) (vl : Value) (k : Nat) (wr : World) : Prop where
  ex : ∃ (n : Nat) (val : List UInt8 → Value) (q : Nat → Option (List UInt8)), LI wr w.heap.size w.heap.size n S.has val (onT S keep ls k) q ∧ (∀ b, blk vl = some b → q b = none ∧ b ≠ w.heap.size) ∧ n ≤ S.fs.length + k
  own : OwnP wr w.heap.size vl ls
  gr : w.grownBy wr none
theorem R2.ext {w wr w' : World} {S : Dk} {keep : List Int} {ls : List Sec} {vl : Value} {k : Nat} (h : R2 w S keep ls vl k wr) (hg : wr.grownBy w' none) : R2 w S keep ls vl k w' := by
  obtain ⟨⟨n, val, q, h1, h2, h3⟩, h4, h5⟩ := h
  exact ⟨⟨n, val, q, h1.ext hg, h2, h3⟩, Own.ext h4 hg, gr_trans h5 hg (.inl rfl)⟩
theorem onT_at {S : Dk} {keep : List Int} {ls : List Sec} {k : Nat} (hk : k < ls.length) : onT S keep ls (k + 1) = onS S keep k ls[k] (onT S keep ls k) := by
  show (match ls[k]? with | some x => onS S keep k x (onT S keep ls k) | none => onT S keep ls k) = _
  rw [List.getElem?_eq_getElem hk]
theorem R2.skip {w wr : World} {S : Dk} {keep : List Int} {ls : List Sec} {vl : Value} {k : Nat} (h : R2 w S keep ls vl k wr) (hk : k < ls.length) (hm : memI keep (k : Int) = false) : R2 w S keep ls vl (k + 1) wr := by
  obtain ⟨⟨n, val, q, h1, h2, h3⟩, h4, h5⟩ := h
  refine ⟨⟨n, val, q, h1.cast rfl ?_, h2, by omega⟩, h4, h5⟩
  rw [onT_at hk]
  unfold onS
  rw [if_neg (by unfold memI at hm; rw [hm]; simp)]
/-- one loose sector more stays: its file's slice in the map left is another one. -/
theorem R2.put {w wc w1 w2 w3 : World} {S : Dk} {keep : List Int} {ls : List Sec} {vl : Value} {k n : Nat} {val : List UInt8 → Value} {q : Nat → Option (List UInt8)}
    (h : LI wc w.heap.size w.heap.size n S.has val (onT S keep ls k) q) (hqv : ∀ b, blk vl = some b → q b = none ∧ b ≠ w.heap.size) (hn : n ≤ S.fs.length + k) (hown : OwnP wc w.heap.size vl ls) (hgr : w.grownBy wc none)
    (hk : k < ls.length) {s : List UInt8} {p : UInt32} (hx : ls[k] = ⟨s, p⟩) (hs : S.has s = true) (hsl : s.length ≤ maxLen) (hm : memI keep (k : Int) = true) {v0 v1 : Value} (hv0 : val s = v0) (x1 : Ext0 wc w1 v0 v1) (x2 : Ext0 w1 w2 v1 v1)
    (ho : OwnB w2 w.heap.size v1 (onB (S.nowOf s) (onT S keep ls k s) p.toNat)) (g3 : w2.grownBy w3 (some w.heap.size)) (hvm : VM strK w3 w.heap.size (n + 1) (fun z => if z = (⟨s, hsl⟩ : Nm) then some v1 else domL S.has val z)) :
    R2 w S keep ls vl (k + 1) w3 := by
  subst hv0
  obtain ⟨r1, a1, b1, c1⟩ := x1
  obtain ⟨r2, a2, b2, c2⟩ := x2
  have t1 : Tn q s wc w1 := Tn.of_gr a1 fun j e => .inl (h.tag s hs j (b1 j e))
  have hv1 : ∀ j, blk v1 = some j → q j = some s ∨ wc.heap.size ≤ j := fun j e => (c1 j e).imp (h.tag s hs j) id
  have t2 : Tn q s wc w2 := t1.more a2 fun j e => hv1 j (b2 j e)
  obtain ⟨q', h', hq'⟩ := h.turn t2 ho hv1 hsl g3 hvm
  have hz := t2.size
  have hnew : ∀ {j : Nat}, (q j = some s ∨ wc.heap.size ≤ j) → w.heap.size ≤ j := fun {j} e => by
    rcases e with e | e
    · exact (h.inb j (by rw [e]; simp)).1
    · have := hgr.size; omega
  refine ⟨⟨n + 1, _, q', h'.cast ?_ ?_, fun b hb => ?_, by omega⟩, ?_, ?_⟩
  · funext x
    by_cases e : x = s
    · subst e; simp [hs]
    · have : (x == s) = false := by simpa using e
      rw [this, Bool.or_false]
  · rw [onT_at hk, hx]
    unfold onS
    rw [if_pos (by unfold memI at hm; exact hm)]
  · have hb2 := hqv b hb
    have hlt := (Own.blk_lt hown (by omega) hb).2
    exact ⟨by rw [hq' b hlt]; exact hb2.1, hb2.2⟩
  · refine Own.off (Own.same hown fun b hb => ?_) g3 fun j e => by cases e; exact fun hb => (hqv _ hb).2 rfl
    refine t2.block b (Own.blk_lt hown (by omega) hb).2 fun e => ?_
    rw [(hqv b hb).1] at e; cases e
  · exact gr_trans (gr_trans (gr_trans hgr a1 (.inr fun j e => hnew (.inl (h.tag s hs j (b1 j e))))) a2 (.inr fun j e => hnew (hv1 j (b2 j e)))) g3 (.inr fun j e => by cases e; exact Nat.le_refl _)
/-- the map left itself, when one of its slices is written. -/
theorem LI.vm2 {wc w1 w2 : World} {m n : Nat} {hs : List UInt8 → Bool} {val : List UInt8 → Value} {L : List UInt8 → List UInt8} {q : Nat → Option (List UInt8)} {B : Nat} (h : LI wc B m n hs val L q) {s : List UInt8} (hs' : hs s = true) {v0 v1 : Value} (hv0 : val s = v0) (x1 : Ext0 wc w1 v0 v1) (x2 : Ext0 w1 w2 v1 v1) :
    VM strK w2 m n (domL hs val) := by
  subst hv0
  obtain ⟨r1, a1, b1, c1⟩ := x1
  obtain ⟨r2, a2, b2, c2⟩ := x2
  have hml := h.lt
  have ht : ∀ j, blk (val s) = some j → j ≠ m := fun j e => (h.inb j (by rw [h.tag s hs' j e]; simp)).2.2
  refine (h.map.gr a1 (fun e => ht m (b1 m e) rfl)).gr a2 fun e => ?_
  rcases c1 m (b2 m e) with h1 | h1
  · exact ht m h1 rfl
  · omega
/-- m[s] = &.., where there was one: the run. -/
theorem run_fm_reput {w : World} {m n : Nat} {dom : List UInt8 → Option Nat} (h : FM w m n dom) (hn : n < maxLen) {s : List UInt8} (hs : s.length ≤ maxLen) (hin : dom s ≠ none) (b : Nat) :
    ∃ w', (Instr.mapUpdate 71 (.map (some m)) (.string ⟨s.toArray⟩) (.pointer (some ⟨b, 0, none⟩))).run Tryz.prog w = .ok () w' ∧ FM w' m n (fun x => if x = s then some b else dom x) ∧ w.grownBy w' (some m) := by
  obtain ⟨D, h, h0, h1⟩ := h
  obtain ⟨w', hrun, h', g'⟩ := h.update Tryz.keyedS Tryz.underlying71 hn (keyS hs) (show ptrElem (.pointer (some ⟨b, 0, none⟩)) = some (.lit (.int .i64 b), []) from rfl)
  refine ⟨w', hrun, ?_, g'⟩
  obtain ⟨b0, hb0⟩ := Option.ne_none_iff_exists'.1 hin
  have hsz := size_put_le (x := (.lit (.int .i64 b) : Dt)) (FM.isMap h) (h1 s b0 hb0).2.1
  have hle := h.size_le
  obtain ⟨es, clock, q1, q2, q3, q4⟩ := h'
  have hes : es.size ≤ n := by
    have : Maps.size (D.put (.string s) (.lit (.int .i64 b))) = es.size := by rw [q4]; simp [Maps.size, Go.length_sorted]
    omega
  obtain ⟨D2, j1, j2, j3⟩ := FM.of_put (FM.isMap h) h0 h1 hs b (⟨es, clock, q1, q2, Nat.le_trans hes (Nat.le_succ n), q4⟩ : w'.ownsMap Tryz.prog 9 ptrElem m (n + 1) (D.put (.string s) (.lit (.int .i64 b))))
  obtain ⟨es2, clock2, p1, p2, p3, p4⟩ := j1
  have : es2 = es := by rw [q1] at p1; cases p1; rfl
  subst this
  exact ⟨D2, ⟨es2, clock2, p1, p2, hes, p4⟩, j2, j3⟩
/-- the third loop: which files of the map left are still to come. -/
structure R3 (w : World) (S : Dk) (c : Con) (T : List UInt8 → List UInt8) (val : List UInt8 → Value) (r : Nat) (left : Nm → Bool) (wr : World) : Prop where
  ex : ∃ (c3 : Con) (o3 : Own1) (done : List UInt8 → Bool), Bx wr w.heap.size c3 S T done o3 ∧ (c3.nv = val ∧ c3.mb = c.mb ∧ c3.lb = c.lb) ∧ o3 r = none ∧ ∀ f ∈ S.fs, ∀ hl : f.name.length ≤ maxLen, left ⟨f.name, hl⟩ = false → done f.name = true
  gr : w.grownBy wr (some c.mb)
theorem R3.off {w wr w' : World} {S : Dk} {c : Con} {T : List UInt8 → List UInt8} {val : List UInt8 → Value} {r : Nat} {left : Nm → Bool} (h : R3 w S c T val r left wr) (hg : wr.grownBy w' (some r)) (hr : w.heap.size ≤ r) (hm : r ≠ c.mb) : R3 w S c T val r left w' := by
  obtain ⟨⟨c3, o3, done, h1, h2, h3, h4⟩, h5⟩ := h
  exact ⟨⟨c3, o3, done, h1.off hg h3 (by rw [h2.2.1]; exact hm), h2, h3, h4⟩, gr_trans h5 hg (.inr fun j e => by cases e; exact hr)⟩
/-- a file that came is stored. -/
theorem R3.step {w wr w3 w4 : World} {S : Dk} {c c3 : Con} {o3 : Own1} {done : List UInt8 → Bool} {T : List UInt8 → List UInt8} {val : List UInt8 → Value} {r : Nat} {left : Nm → Bool} (hbx : Bx wr w.heap.size c3 S T done o3) (he : c3.nv = val ∧ c3.mb = c.mb ∧ c3.lb = c.lb) (hor : o3 r = none)
    (hdn : ∀ f ∈ S.fs, ∀ hl : f.name.length ≤ maxLen, left ⟨f.name, hl⟩ = false → done f.name = true) (hgr : w.grownBy wr (some c.mb)) (hrl : r < wr.heap.size) (hn : (S.fs.map Fi.name).Nodup) {f : Fi} (hf : f ∈ S.fs) (g3 : wr.grownBy w3 none) {k : Nat} {v : Value} (hk : wr.heap.size ≤ k) (hv : OwnB w3 wr.heap.size v (T f.name)) (hne : blk v ≠ some k)
    (hb : Blk w3 k 96 #[val f.name, v]) (g4 : w3.grownBy w4 (some c.mb)) (hm : FM w4 c.mb S.fs.length (fun x => if x = f.name then some k else domOf S.fs c3.fb x)) :
    R3 w S c T val r (fun y => left y && !(y.1 == f.name)) w4 := by
  obtain ⟨rfl, e2, e3⟩ := he
  obtain ⟨o', h1, h2⟩ := hbx.step hn hgr.size hf g3 hk hv hne hb (by rw [e2]; exact g4) (by rw [e2]; exact hm)
  refine ⟨⟨_, o', _, h1, ⟨rfl, e2, e3⟩, by rw [h2 r hrl]; exact hor, fun g hg hl hlt => ?_⟩, gr_trans (gr_none hgr g3) g4 (.inl rfl)⟩
  show (done g.name || g.name == f.name) = true
  by_cases e : g.name = f.name
  · simp [e]
  · have : (g.name == f.name) = false := by simpa using e
    have hlt' : (left ⟨g.name, hl⟩ && !(g.name == f.name)) = false := hlt
    rw [this] at hlt'
    rw [hdn g hg hl (by simpa using hlt')]; rfl
theorem domL_inv {has : List UInt8 → Bool} {val : List UInt8 → Value} {x : Nm} {u : Value} (h : domL has val x = some u) : has x.1 = true ∧ u = val x.1 := by
  unfold domL at h
  by_cases e : has x.1 = true
  · rw [if_pos e] at h; cases h; exact ⟨e, rfl⟩
  · rw [if_neg e] at h; cases h
theorem has_inv {S : Dk} {s : List UInt8} (h : S.has s = true) : ∃ f ∈ S.fs, f.name = s := by
  unfold Dk.has at h
  obtain ⟨f, hf⟩ := Option.isSome_iff_exists.1 h
  exact ⟨f, (find_some hf).1, (find_some hf).2⟩
section
variable {w : World} {B d : Nat} {o : Own1} {S : Dk} {c : Con}
def OnOut (o : Own1) (w : World) (B d : Nat) (S : Dk) (keep : List Int) (e : Ending) (w' : World) : Prop :=
  e = .returned (.int .i64 0) ∧ ∃ ls, LsIs S ls ∧ DOut o w B d (S.lit (onT S keep ls ls.length)) w'
theorem looseOk (h : DI w B o d S c) (hli : LooseIn S) : LooseOk S := fun s k _ hl => by
  obtain ⟨f, hf, h0, h1⟩ := hli s k hl
  have := (h.file f (find_some hf).1).small.2.1
  omega
theorem onT_small (h : DI w B o d S c) (hli : LooseIn S) {ls : List Sec} (hl : LsIs S ls) (keep : List Int) (k : Nat) (s : List UInt8) : (onT S keep ls k s).length ≤ 16777216 := by
  refine onT_len (fun s => ?_) (fun s => ?_) (fun x hx => ?_) k s
  · unfold Dk.lastsOf
    cases hf : S.find s with
    | none => simp
    | some f => exact (h.file f (find_some hf).1).small.2.2
  · unfold Dk.nowOf
    cases hf : S.find s with
    | none => simp
    | some f => exact (h.file f (find_some hf).1).small.2.1
  · obtain ⟨s, p⟩ := x
    obtain ⟨f, h1, h2, h3⟩ := hli s _ ((hl.2.1 s _ (hl.2.2 _ hx)).2 ⟨p, hx, rfl⟩)
    rw [nowOf_some h1]
    omega
end
end Go.Proofs.YtipankjajdpiiaaGreat
