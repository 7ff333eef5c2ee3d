/-
  A disk in memory: which blocks it stands in, and what keeps it.
-/
import Derived.Test.YtipankjajdpiiaaGreatRef
import Derived.Test.YtipankjajdpiiaaGreatMap
import Derived.Test.YtipankjajdpiiaaGreatPfP
namespace Go.Proofs.YtipankjajdpiiaaGreat
open Go.RowKit
set_option maxRecDepth 100000

/-- whose a block is. -/
abbrev Own1 := Nat → Option (Nat × List UInt8)
/-- only blocks with an owner were written, and no block that was there got one. -/
structure Ch (o : Own1) (w : World) (o' : Own1) (w' : World) : Prop where
  os : w'.os = w.os
  tape : w'.tape = w.tape
  output : w'.output = w.output
  size : w.heap.size ≤ w'.heap.size
  block : ∀ i, i < w.heap.size → o i = none → w'.heap[i]? = w.heap[i]?
  free : ∀ i, i < w.heap.size → o i = none → o' i = none
section
variable {o o1 o2 : Own1} {w w1 w2 : World}
theorem Ch.refl (o : Own1) (w : World) : Ch o w o w := ⟨rfl, rfl, rfl, Nat.le_refl _, fun _ _ _ => rfl, fun _ _ h => h⟩
theorem Ch.trans (h : Ch o w o1 w1) (k : Ch o1 w1 o2 w2) : Ch o w o2 w2 :=
  ⟨k.os.trans h.os, k.tape.trans h.tape, k.output.trans h.output, Nat.le_trans h.size k.size, fun i hi h0 => (k.block i (Nat.lt_of_lt_of_le hi h.size) (h.free i hi h0)).trans (h.block i hi h0), fun i hi h0 => k.free i (Nat.lt_of_lt_of_le hi h.size) (h.free i hi h0)⟩
theorem Ch.of_gr {r : Option Nat} (h : w.grownBy w1 r) (hr : ∀ k, r = some k → o k ≠ none) : Ch o w o w1 :=
  ⟨h.os, h.tape, h.output, h.size, fun i hi h0 => h.block i hi (fun e => hr i e.symm h0), fun _ _ h => h⟩
theorem Ch.ext (h : w.grownBy w1 none) : Ch o w o w1 := Ch.of_gr h (fun _ e => by cases e)
/-- seen from a world in which nothing was owned yet. -/
theorem Ch.gr {w0 : World} (h : Ch o w o1 w1) (hg : w0.grownBy w none) (ho : ∀ i, o i ≠ none → w0.heap.size ≤ i) : w0.grownBy w1 none :=
  ⟨h.os.trans hg.os, h.tape.trans hg.tape, h.output.trans hg.output, Nat.le_trans hg.size h.size, fun i hi _ => by
    have h0 : o i = none := by
      cases e : o i with
      | none => rfl
      | some t => exact absurd (ho i (by rw [e]; simp)) (by omega)
    exact (h.block i (Nat.lt_of_lt_of_le hi hg.size) h0).trans (hg.block i hi (by simp))⟩
theorem Ch.rd (h : Ch o w o1 w1) {s n : Nat} {v : Value} {xs : List Value} (hr : Rd w s v n xs) (hb : ∀ k, blk v = some k → k < w.heap.size ∧ o k = none) : Rd w1 s v n xs :=
  hr.same fun k hk => h.block k (hb k hk).1 (hb k hk).2
theorem Ch.own (h : Ch o w o1 w1) {B s n : Nat} {v : Value} {xs : List Value} (hr : Own w B s v n xs) (hs : 0 < s) (hb : ∀ k, blk v = some k → o k = none) : Own w1 B s v n xs :=
  hr.same fun k hk => h.block k (Own.blk_lt hr hs hk).2 (hb k hk)
theorem Ch.blk (h : Ch o w o1 w1) {g : Nat} {t : TypeId} {cs : Array Value} (hr : Blk w g t cs) (hb : o g = none) : Blk w1 g t cs := hr.same (h.block g hr.lt hb)
end

/-- where a disk's parts stand. -/
structure Con where
  mb : Nat
  lb : Nat
  fb : List UInt8 → Nat
  nv : List UInt8 → Value
  lv : List UInt8 → Value
def domOf (fs : List Fi) (fb : List UInt8 → Nat) (s : List UInt8) : Option Nat := (fs.find? fun f => f.name == s).map fun _ => fb s
def selfC (c : Con) (q a : Nat) (dd : Bool) : Array Value := #[.map (some c.mb), .map (some c.lb), .int .i64 q, .int .i64 a, .bool dd]
structure FileR (w : World) (B : Nat) (c : Con) (f : Fi) : Prop where
  box : Blk w (c.fb f.name) 96 #[c.nv f.name, c.lv f.name]
  now : OwnB w B (c.nv f.name) f.now
  lasts : OwnB w B (c.lv f.name) f.lasts
  small : f.name.length ≤ 24 ∧ f.now.length ≤ 16777216 ∧ f.lasts.length ≤ 16777216
structure TagR (o : Own1) (c : Con) (f : Fi) : Prop where
  file : o (c.fb f.name) = some (3, f.name)
  now : ∀ b, blk (c.nv f.name) = some b → o b = some (4, f.name)
  lasts : ∀ b, blk (c.lv f.name) = some b → o b = some (5, f.name)
structure DI (w : World) (B : Nat) (o : Own1) (d : Nat) (S : Dk) (c : Con) : Prop where
  self : Blk w d 74 (selfC c S.quota S.armed S.dead)
  fm : FM w c.mb S.fs.length (domOf S.fs c.fb)
  lm : LM w c.lb S.nl S.loose
  file : ∀ f ∈ S.fs, FileR w B c f
  tag : ∀ f ∈ S.fs, TagR o c f
  names : (S.fs.map Fi.name).Nodup
  tD : o d = some (0, [])
  tM : o c.mb = some (1, [])
  tL : o c.lb = some (2, [])
  inb : ∀ i, o i ≠ none → B ≤ i ∧ i < w.heap.size
  lim : S.quota ≤ 1048576 ∧ S.armed ≤ 9223372036854775807
section
variable {w w' : World} {B d : Nat} {o : Own1} {S : Dk} {c : Con}
theorem FileR.same {f : Fi} (h : FileR w B c f) (h1 : w'.heap[c.fb f.name]? = w.heap[c.fb f.name]?) (h2 : ∀ k, blk (c.nv f.name) = some k → w'.heap[k]? = w.heap[k]?) (h3 : ∀ k, blk (c.lv f.name) = some k → w'.heap[k]? = w.heap[k]?) : FileR w' B c f :=
  ⟨h.box.same h1, Own.same h.now h2, Own.same h.lasts h3, h.small⟩
theorem FileR.tagged {f : Fi} (h : FileR w B c f) (ht : TagR o c f) (hs : ∀ i, o i ≠ none → (o i).map Prod.snd = some f.name → w'.heap[i]? = w.heap[i]?) : FileR w' B c f :=
  h.same (hs _ (by rw [ht.file]; simp) (by rw [ht.file]; rfl)) (fun k hk => hs k (by rw [ht.now k hk]; simp) (by rw [ht.now k hk]; rfl)) (fun k hk => hs k (by rw [ht.lasts k hk]; simp) (by rw [ht.lasts k hk]; rfl))
theorem FM.same {m n : Nat} {dom : List UInt8 → Option Nat} (h : FM w m n dom) (hb : w'.heap[m]? = w.heap[m]?) : FM w' m n dom := by
  obtain ⟨D, ⟨es, cl, h1, h2⟩, h3⟩ := h
  exact ⟨D, ⟨es, cl, hb.trans h1, h2⟩, h3⟩
theorem LM.same {m n : Nat} {L : List UInt8 → Int → Bool} (h : LM w m n L) (hb : w'.heap[m]? = w.heap[m]?) : LM w' m n L := by
  obtain ⟨D, ⟨es, cl, h1, h2⟩, h3⟩ := h
  exact ⟨D, ⟨es, cl, hb.trans h1, h2⟩, h3⟩
/-- what was not struck keeps a disk. -/
theorem DI.keep (h : DI w B o d S c) (hz : w.heap.size ≤ w'.heap.size) (hs : ∀ i, o i ≠ none → w'.heap[i]? = w.heap[i]?) : DI w' B o d S c :=
  { self := h.self.same (hs _ (by rw [h.tD]; simp)), fm := h.fm.same (hs _ (by rw [h.tM]; simp)), lm := h.lm.same (hs _ (by rw [h.tL]; simp)),
    file := fun f hf => (h.file f hf).tagged (h.tag f hf) (fun i hi _ => hs i hi), tag := h.tag, names := h.names, tD := h.tD, tM := h.tM, tL := h.tL, inb := fun i hi => ⟨(h.inb i hi).1, Nat.lt_of_lt_of_le (h.inb i hi).2 hz⟩, lim := h.lim }
theorem DI.far (h : DI w B o d S c) {r : Option Nat} (hg : w.grownBy w' r) (hr : ∀ k, r = some k → o k = none) : DI w' B o d S c :=
  h.keep hg.size fun i hi => hg.block i (h.inb i hi).2 fun e => hi (hr i e.symm)
theorem DI.ext (h : DI w B o d S c) (hg : w.grownBy w' none) : DI w' B o d S c := h.far hg fun _ e => by cases e
/-- the numbers of a disk are written. -/
theorem DI.numbers (h : DI w B o d S c) (hg : w.grownBy w' (some d)) (q a : Nat) (dd : Bool) (hb : Blk w' d 74 (selfC c q a dd)) (hq : q ≤ 1048576) (ha : a ≤ 9223372036854775807) :
    DI w' B o d { S with quota := q, armed := a, dead := dd } c := by
  have hs : ∀ i, o i ≠ none → i ≠ d → w'.heap[i]? = w.heap[i]? := fun i hi hd => hg.block i (h.inb i hi).2 (fun e => hd (by cases e; rfl))
  exact
  { self := hb, fm := h.fm.same (hs _ (by rw [h.tM]; simp) (fun e => by have := h.tM; rw [e, h.tD] at this; cases this)), lm := h.lm.same (hs _ (by rw [h.tL]; simp) (fun e => by have := h.tL; rw [e, h.tD] at this; cases this)),
    file := fun f hf => (h.file f hf).same (hs _ (by rw [(h.tag f hf).file]; simp) (fun e => by have := (h.tag f hf).file; rw [e, h.tD] at this; cases this))
      (fun k hk => hs k (by rw [(h.tag f hf).now k hk]; simp) (fun e => by have := (h.tag f hf).now k hk; rw [e, h.tD] at this; cases this))
      (fun k hk => hs k (by rw [(h.tag f hf).lasts k hk]; simp) (fun e => by have := (h.tag f hf).lasts k hk; rw [e, h.tD] at this; cases this)),
    tag := h.tag, names := h.names, tD := h.tD, tM := h.tM, tL := h.tL, inb := fun i hi => ⟨(h.inb i hi).1, Nat.lt_of_lt_of_le (h.inb i hi).2 hg.size⟩, lim := ⟨hq, ha⟩ }
/-- the loose sectors are written. -/
theorem DI.loose (h : DI w B o d S c) (hg : w.grownBy w' (some c.lb)) {n : Nat} {L : List UInt8 → Int → Bool} (hl : LM w' c.lb n L) : DI w' B o d { S with loose := L, nl := n } c := by
  have hs : ∀ i, o i ≠ none → i ≠ c.lb → w'.heap[i]? = w.heap[i]? := fun i hi hd => hg.block i (h.inb i hi).2 (fun e => hd (by cases e; rfl))
  exact
  { self := h.self.same (hs _ (by rw [h.tD]; simp) (fun e => by have := h.tD; rw [e, h.tL] at this; cases this)), fm := h.fm.same (hs _ (by rw [h.tM]; simp) (fun e => by have := h.tM; rw [e, h.tL] at this; cases this)), lm := hl,
    file := fun f hf => (h.file f hf).same (hs _ (by rw [(h.tag f hf).file]; simp) (fun e => by have := (h.tag f hf).file; rw [e, h.tL] at this; cases this))
      (fun k hk => hs k (by rw [(h.tag f hf).now k hk]; simp) (fun e => by have := (h.tag f hf).now k hk; rw [e, h.tL] at this; cases this))
      (fun k hk => hs k (by rw [(h.tag f hf).lasts k hk]; simp) (fun e => by have := (h.tag f hf).lasts k hk; rw [e, h.tL] at this; cases this)),
    tag := h.tag, names := h.names, tD := h.tD, tM := h.tM, tL := h.tL, inb := fun i hi => ⟨(h.inb i hi).1, Nat.lt_of_lt_of_le (h.inb i hi).2 hg.size⟩, lim := h.lim }
theorem nodup_name {fs : List Fi} (h : (fs.map Fi.name).Nodup) {f g : Fi} (hf : f ∈ fs) (hg : g ∈ fs) (e : f.name = g.name) : f = g := by
  induction fs with
  | nil => cases hf
  | cons a l ih =>
    rw [List.map_cons, List.nodup_cons] at h
    rcases List.mem_cons.1 hf with e1 | hf
    · rcases List.mem_cons.1 hg with e2 | hg
      · rw [e1, e2]
      · exact absurd (List.mem_map.2 ⟨g, hg, by rw [← e, e1]⟩) h.1
    · rcases List.mem_cons.1 hg with e2 | hg
      · exact absurd (List.mem_map.2 ⟨f, hf, by rw [e, e2]⟩) h.1
      · exact ih h.2 hf hg
theorem find_mem {fs : List Fi} {f : Fi} (h : (fs.map Fi.name).Nodup) (hf : f ∈ fs) : fs.find? (fun g => g.name == f.name) = some f := by
  cases hq : fs.find? (fun g => g.name == f.name) with
  | none =>
    rw [List.find?_eq_none] at hq
    exact absurd (by simp) (hq f hf)
  | some g =>
    have h1 := List.mem_of_find?_eq_some hq
    have h2 : g.name = f.name := by simpa using List.find?_some hq
    rw [nodup_name h h1 hf h2]
theorem domOf_setF {fs : List Fi} {fb fb' : List UInt8 → Nat} {n : List UInt8} {g : Fi → Fi} (hg : ∀ f, (g f).name = f.name) (hb : ∀ s, (fs.find? fun f => f.name == s) ≠ none → fb' s = fb s) : domOf (setF fs n g) fb' = domOf fs fb := by
  funext s
  unfold domOf setF
  rw [List.find?_map]
  have : ((fun f : Fi => f.name == s) ∘ fun f => if f.name = n then g f else f) = fun f => f.name == s := by
    funext f
    by_cases e : f.name = n
    · simp [e, hg]
    · simp [e]
  rw [this]
  cases hq : fs.find? (fun f => f.name == s) with
  | none => rfl
  | some f => simp [hb s (by rw [hq]; simp)]
/-- one of a file's two lists is another one. -/
theorem DI.setNow (h : DI w B o d S c) {f : Fi} (hf : f ∈ S.fs) (hz : w.heap.size ≤ w'.heap.size) (hs : ∀ i, o i ≠ none → o i ≠ some (3, f.name) → o i ≠ some (4, f.name) → w'.heap[i]? = w.heap[i]?)
    (v : Value) (l : List UInt8) (hb : Blk w' (c.fb f.name) 96 #[v, c.lv f.name]) (hv : OwnB w' B v l) (hk : ∀ k, blk v = some k → o k = some (4, f.name) ∨ w.heap.size ≤ k) (hl : l.length ≤ 16777216) :
    ∃ o' c', DI w' B o' d { S with fs := setF S.fs f.name fun g => { g with now := l } } c' ∧ (∀ i, i < w.heap.size → o' i = o i) ∧ c' = { c with nv := fun s => if s = f.name then v else c.nv s } := by
  have hfr : ∀ i, w.heap.size ≤ i → o i = none := fun i hi => by
    cases e : o i with
    | none => rfl
    | some t => exact absurd (h.inb i (by rw [e]; simp)).2 (by omega)
  have hold : ∀ i, o i ≠ none → i < w.heap.size := fun i hi => (h.inb i hi).2
  have ht := h.tag f hf
  obtain ⟨o', ho'⟩ : ∃ o' : Own1, o' = fun i => if w.heap.size ≤ i then (if blk v = some i then some (4, f.name) else none) else o i := ⟨_, rfl⟩
  have hoo : ∀ i, i < w.heap.size → o' i = o i := fun i hi => by rw [ho']; exact if_neg (by omega)
  have ho2 : ∀ i t, o i = some t → o' i = some t := fun i t e => by rw [hoo i (hold i (by rw [e]; simp))]; exact e
  refine ⟨o', _, ?_, hoo, rfl⟩
  have hds : ∀ {i}, o i = some (0, []) ∨ o i = some (1, []) ∨ o i = some (2, []) → w'.heap[i]? = w.heap[i]? := fun {i} e => by
    rcases e with e | e | e <;> exact hs i (by rw [e]; simp) (by rw [e]; simp) (by rw [e]; simp)
  have hfile : ∀ g ∈ S.fs, g.name ≠ f.name → FileR w' B { c with nv := fun s => if s = f.name then v else c.nv s } g := fun g hg hn => by
    have hgt := h.tag g hg
    have h1 : FileR w' B c g := (h.file g hg).tagged hgt fun i hi hi2 => hs i hi (fun e => by rw [e] at hi2; exact hn (by simpa using hi2.symm)) (fun e => by rw [e] at hi2; exact hn (by simpa using hi2.symm))
    have e : (if g.name = f.name then v else c.nv g.name) = c.nv g.name := if_neg hn
    refine ⟨?_, ?_, h1.lasts, h1.small⟩
    · show Blk w' (c.fb g.name) _ #[if g.name = f.name then v else c.nv g.name, c.lv g.name]
      rw [e]; exact h1.box
    · show OwnB w' B (if g.name = f.name then v else c.nv g.name) g.now
      rw [e]; exact h1.now
  refine { self := h.self.same (hds (.inl h.tD)), fm := ?_, lm := h.lm.same (hds (.inr (.inr h.tL))), file := fun g hg => ?_, tag := fun g hg => ?_, names := ?_, tD := ho2 _ _ h.tD, tM := ho2 _ _ h.tM, tL := ho2 _ _ h.tL, inb := fun i hi => ?_, lim := h.lim }
  · show FM w' c.mb (setF S.fs f.name fun g => { g with now := l }).length (domOf (setF S.fs f.name fun g => { g with now := l }) c.fb)
    rw [setF_len, domOf_setF (fb := c.fb) (g := fun g => { g with now := l }) (fun _ => rfl) (fun _ _ => rfl)]
    exact h.fm.same (hds (.inr (.inl h.tM)))
  · rcases mem_setF hg with ⟨hg, hn⟩ | ⟨g0, hg0, hn, rfl⟩
    · exact hfile g hg hn
    · obtain rfl := nodup_name h.names hg0 hf hn
      have h1 : OwnB w' B (c.lv g0.name) g0.lasts := Own.same (h.file g0 hf).lasts fun k hk => hs k (by rw [ht.lasts k hk]; simp) (by rw [ht.lasts k hk]; simp) (by rw [ht.lasts k hk]; simp)
      refine ⟨?_, ?_, h1, ⟨(h.file g0 hf).small.1, hl, (h.file g0 hf).small.2.2⟩⟩
      · show Blk w' (c.fb g0.name) _ #[if g0.name = g0.name then v else c.nv g0.name, c.lv g0.name]
        rw [if_pos rfl]; exact hb
      · show OwnB w' B (if g0.name = g0.name then v else c.nv g0.name) l
        rw [if_pos rfl]; exact hv
  · rcases mem_setF hg with ⟨hg, hn⟩ | ⟨g0, hg0, hn, rfl⟩
    · have hgt := h.tag g hg
      refine ⟨ho2 _ _ hgt.file, fun k hk => ?_, fun k hk => ho2 _ _ (hgt.lasts k hk)⟩
      have hk' : blk (if g.name = f.name then v else c.nv g.name) = some k := hk
      rw [if_neg hn] at hk'
      exact ho2 _ _ (hgt.now k hk')
    · obtain rfl := nodup_name h.names hg0 hf hn
      refine ⟨ho2 _ _ ht.file, fun k hk' => ?_, fun k hk => ho2 _ _ (ht.lasts k hk)⟩
      have hk2 : blk (if g0.name = g0.name then v else c.nv g0.name) = some k := hk'
      rw [if_pos rfl] at hk2
      rcases hk k hk2 with e | e
      · exact ho2 _ _ e
      · rw [ho']
        show (if w.heap.size ≤ k then (if blk v = some k then some (4, g0.name) else none) else o k) = _
        rw [if_pos e, if_pos hk2]
  · show ((setF S.fs f.name fun g => { g with now := l }).map Fi.name).Nodup
    rw [setF_names (g := fun g => { g with now := l }) (fun _ => rfl)]; exact h.names
  · by_cases hlt : i < w.heap.size
    · rw [hoo i hlt] at hi
      exact ⟨(h.inb i hi).1, Nat.lt_of_lt_of_le (h.inb i hi).2 hz⟩
    · rw [ho'] at hi
      have hi2 : (if w.heap.size ≤ i then (if blk v = some i then some (4, f.name) else none) else o i) ≠ none := hi
      rw [if_pos (by omega)] at hi2
      by_cases e : blk v = some i
      · exact Own.blk_lt hv (by omega) e
      · rw [if_neg e] at hi2; exact absurd rfl hi2
/-- .. and the other one. -/
theorem DI.setLasts (h : DI w B o d S c) {f : Fi} (hf : f ∈ S.fs) (hz : w.heap.size ≤ w'.heap.size) (hs : ∀ i, o i ≠ none → o i ≠ some (3, f.name) → o i ≠ some (5, f.name) → w'.heap[i]? = w.heap[i]?)
    (v : Value) (l : List UInt8) (hb : Blk w' (c.fb f.name) 96 #[c.nv f.name, v]) (hv : OwnB w' B v l) (hk : ∀ k, blk v = some k → o k = some (5, f.name) ∨ w.heap.size ≤ k) (hl : l.length ≤ 16777216) :
    ∃ o' c', DI w' B o' d { S with fs := setF S.fs f.name fun g => { g with lasts := l } } c' ∧ (∀ i, i < w.heap.size → o' i = o i) ∧ c' = { c with lv := fun s => if s = f.name then v else c.lv s } := by
  have hfr : ∀ i, w.heap.size ≤ i → o i = none := fun i hi => by
    cases e : o i with
    | none => rfl
    | some t => exact absurd (h.inb i (by rw [e]; simp)).2 (by omega)
  have hold : ∀ i, o i ≠ none → i < w.heap.size := fun i hi => (h.inb i hi).2
  have ht := h.tag f hf
  obtain ⟨o', ho'⟩ : ∃ o' : Own1, o' = fun i => if w.heap.size ≤ i then (if blk v = some i then some (5, f.name) else none) else o i := ⟨_, rfl⟩
  have hoo : ∀ i, i < w.heap.size → o' i = o i := fun i hi => by rw [ho']; exact if_neg (by omega)
  have ho2 : ∀ i t, o i = some t → o' i = some t := fun i t e => by rw [hoo i (hold i (by rw [e]; simp))]; exact e
  refine ⟨o', _, ?_, hoo, rfl⟩
  have hds : ∀ {i}, o i = some (0, []) ∨ o i = some (1, []) ∨ o i = some (2, []) → w'.heap[i]? = w.heap[i]? := fun {i} e => by
    rcases e with e | e | e <;> exact hs i (by rw [e]; simp) (by rw [e]; simp) (by rw [e]; simp)
  have hfile : ∀ g ∈ S.fs, g.name ≠ f.name → FileR w' B { c with lv := fun s => if s = f.name then v else c.lv s } g := fun g hg hn => by
    have hgt := h.tag g hg
    have h1 : FileR w' B c g := (h.file g hg).tagged hgt fun i hi hi2 => hs i hi (fun e => by rw [e] at hi2; exact hn (by simpa using hi2.symm)) (fun e => by rw [e] at hi2; exact hn (by simpa using hi2.symm))
    have e : (if g.name = f.name then v else c.lv g.name) = c.lv g.name := if_neg hn
    refine ⟨?_, h1.now, ?_, h1.small⟩
    · show Blk w' (c.fb g.name) _ #[c.nv g.name, if g.name = f.name then v else c.lv g.name]
      rw [e]; exact h1.box
    · show OwnB w' B (if g.name = f.name then v else c.lv g.name) g.lasts
      rw [e]; exact h1.lasts
  refine { self := h.self.same (hds (.inl h.tD)), fm := ?_, lm := h.lm.same (hds (.inr (.inr h.tL))), file := fun g hg => ?_, tag := fun g hg => ?_, names := ?_, tD := ho2 _ _ h.tD, tM := ho2 _ _ h.tM, tL := ho2 _ _ h.tL, inb := fun i hi => ?_, lim := h.lim }
  · show FM w' c.mb (setF S.fs f.name fun g => { g with lasts := l }).length (domOf (setF S.fs f.name fun g => { g with lasts := l }) c.fb)
    rw [setF_len, domOf_setF (fb := c.fb) (g := fun g => { g with lasts := l }) (fun _ => rfl) (fun _ _ => rfl)]
    exact h.fm.same (hds (.inr (.inl h.tM)))
  · rcases mem_setF hg with ⟨hg, hn⟩ | ⟨g0, hg0, hn, rfl⟩
    · exact hfile g hg hn
    · obtain rfl := nodup_name h.names hg0 hf hn
      have h1 : OwnB w' B (c.nv g0.name) g0.now := Own.same (h.file g0 hf).now fun k hk => hs k (by rw [ht.now k hk]; simp) (by rw [ht.now k hk]; simp) (by rw [ht.now k hk]; simp)
      refine ⟨?_, h1, ?_, ⟨(h.file g0 hf).small.1, (h.file g0 hf).small.2.1, hl⟩⟩
      · show Blk w' (c.fb g0.name) _ #[c.nv g0.name, if g0.name = g0.name then v else c.lv g0.name]
        rw [if_pos rfl]; exact hb
      · show OwnB w' B (if g0.name = g0.name then v else c.lv g0.name) l
        rw [if_pos rfl]; exact hv
  · rcases mem_setF hg with ⟨hg, hn⟩ | ⟨g0, hg0, hn, rfl⟩
    · have hgt := h.tag g hg
      refine ⟨ho2 _ _ hgt.file, fun k hk => ho2 _ _ (hgt.now k hk), fun k hk => ?_⟩
      have hk' : blk (if g.name = f.name then v else c.lv g.name) = some k := hk
      rw [if_neg hn] at hk'
      exact ho2 _ _ (hgt.lasts k hk')
    · obtain rfl := nodup_name h.names hg0 hf hn
      refine ⟨ho2 _ _ ht.file, fun k hk => ho2 _ _ (ht.now k hk), fun k hk' => ?_⟩
      have hk2 : blk (if g0.name = g0.name then v else c.lv g0.name) = some k := hk'
      rw [if_pos rfl] at hk2
      rcases hk k hk2 with e | e
      · exact ho2 _ _ e
      · rw [ho']
        show (if w.heap.size ≤ k then (if blk v = some k then some (5, g0.name) else none) else o k) = _
        rw [if_pos e, if_pos hk2]
  · show ((setF S.fs f.name fun g => { g with lasts := l }).map Fi.name).Nodup
    rw [setF_names (g := fun g => { g with lasts := l }) (fun _ => rfl)]; exact h.names
  · by_cases hlt : i < w.heap.size
    · rw [hoo i hlt] at hi
      exact ⟨(h.inb i hi).1, Nat.lt_of_lt_of_le (h.inb i hi).2 hz⟩
    · rw [ho'] at hi
      have hi2 : (if w.heap.size ≤ i then (if blk v = some i then some (5, f.name) else none) else o i) ≠ none := hi
      rw [if_pos (by omega)] at hi2
      by_cases e : blk v = some i
      · exact Own.blk_lt hv (by omega) e
      · rw [if_neg e] at hi2; exact absurd rfl hi2

/-- one file more. -/
theorem DI.add (h : DI w B o d S c) {n : List UInt8} (hn : S.find n = none) (hnl : n.length ≤ 24) (hB : B ≤ w.heap.size) (hz : w.heap.size < w'.heap.size) (hs : ∀ i, o i ≠ none → i ≠ c.mb → w'.heap[i]? = w.heap[i]?)
    (hb : Blk w' w.heap.size 96 #[.slice none 0 0, .slice none 0 0]) (hm : FM w' c.mb (S.fs.length + 1) (fun x => if x = n then some w.heap.size else domOf S.fs c.fb x)) :
    ∃ o' c', DI w' B o' d { S with fs := S.fs ++ [Fi.mk n [] []] } c' ∧ ∀ i, i < w.heap.size → o' i = o i := by
  have hfr : ∀ i, w.heap.size ≤ i → o i = none := fun i hi => by
    cases e : o i with
    | none => rfl
    | some t => exact absurd (h.inb i (by rw [e]; simp)).2 (by omega)
  have hne := find_none hn
  obtain ⟨o', ho'⟩ : ∃ o' : Own1, o' = fun i => if i = w.heap.size then some (3, n) else o i := ⟨_, rfl⟩
  have hoo : ∀ i, i < w.heap.size → o' i = o i := fun i hi => by rw [ho']; exact if_neg (by omega)
  have ho2 : ∀ i t, o i = some t → o' i = some t := fun i t e => by rw [hoo i (h.inb i (by rw [e]; simp)).2]; exact e
  have hM := h.tM
  have hne2 : ∀ {i} {t : Nat × List UInt8}, o i = some t → t ≠ (1, []) → w'.heap[i]? = w.heap[i]? := fun {i t} e ht => hs i (by rw [e]; simp) (fun e2 => by rw [e2, hM] at e; exact ht (Option.some.inj e).symm)
  obtain ⟨c', hc'⟩ : ∃ c' : Con, c' = { c with fb := fun s => if s = n then w.heap.size else c.fb s, nv := fun s => if s = n then .slice none 0 0 else c.nv s, lv := fun s => if s = n then .slice none 0 0 else c.lv s } := ⟨_, rfl⟩
  have e1 : ∀ s, s ≠ n → c'.fb s = c.fb s ∧ c'.nv s = c.nv s ∧ c'.lv s = c.lv s := fun s hs => by rw [hc']; exact ⟨if_neg hs, if_neg hs, if_neg hs⟩
  have e2 : c'.fb n = w.heap.size ∧ c'.nv n = .slice none 0 0 ∧ c'.lv n = .slice none 0 0 := by rw [hc']; exact ⟨if_pos rfl, if_pos rfl, if_pos rfl⟩
  have e3 : c'.mb = c.mb ∧ c'.lb = c.lb := by rw [hc']; exact ⟨rfl, rfl⟩
  refine ⟨o', c', ?_, hoo⟩
  refine { self := ?_, fm := ?_, lm := ?_, file := fun g hg => ?_, tag := fun g hg => ?_, names := ?_, tD := ho2 _ _ h.tD, tM := by rw [e3.1]; exact ho2 _ _ h.tM, tL := by rw [e3.2]; exact ho2 _ _ h.tL, inb := fun i hi => ?_, lim := h.lim }
  · unfold selfC
    rw [e3.1, e3.2]
    exact h.self.same (hne2 h.tD (by simp))
  · rw [e3.1]
    show FM w' c.mb (S.fs ++ [Fi.mk n [] []]).length (domOf (S.fs ++ [Fi.mk n [] []]) c'.fb)
    have : domOf (S.fs ++ [Fi.mk n [] []]) c'.fb = fun x => if x = n then some w.heap.size else domOf S.fs c.fb x := by
      funext s
      unfold domOf
      rw [List.find?_append]
      by_cases hs : s = n
      · rw [if_pos hs, hs]
        unfold Dk.find at hn
        rw [hn]
        simp [e2.1]
      · rw [if_neg hs]
        have : (n == s) = false := by simpa using fun e => hs e.symm
        cases hq : S.fs.find? (fun f => f.name == s) with
        | none => simp [this]
        | some f => simp [(e1 s hs).1]
    rw [this]
    simpa using hm
  · rw [e3.2]; exact h.lm.same (hne2 h.tL (by simp))
  · rcases List.mem_append.1 hg with hg | hg
    · obtain ⟨a1, a2, a3⟩ := e1 _ (hne g hg)
      have := (h.file g hg).same (w' := w') (hne2 (h.tag g hg).file (by simp)) (fun k hk => hne2 ((h.tag g hg).now k hk) (by simp)) (fun k hk => hne2 ((h.tag g hg).lasts k hk) (by simp))
      refine ⟨?_, ?_, ?_, this.small⟩
      · rw [a1, a2, a3]; exact this.box
      · rw [a2]; exact this.now
      · rw [a3]; exact this.lasts
    · obtain rfl : g = Fi.mk n [] [] := by simpa using hg
      refine ⟨?_, ?_, ?_, hnl, by simp, by simp⟩
      · show Blk w' (c'.fb n) _ #[c'.nv n, c'.lv n]
        rw [e2.1, e2.2.1, e2.2.2]; exact hb
      · show OwnB w' B (c'.nv n) []
        rw [e2.2.1]; exact OwnB.nil _ _
      · show OwnB w' B (c'.lv n) []
        rw [e2.2.2]; exact OwnB.nil _ _
  · rcases List.mem_append.1 hg with hg | hg
    · obtain ⟨a1, a2, a3⟩ := e1 _ (hne g hg)
      have ht := h.tag g hg
      exact ⟨by rw [a1]; exact ho2 _ _ ht.file, fun b hb => by rw [a2] at hb; exact ho2 _ _ (ht.now b hb), fun b hb => by rw [a3] at hb; exact ho2 _ _ (ht.lasts b hb)⟩
    · obtain rfl : g = Fi.mk n [] [] := by simpa using hg
      refine ⟨?_, fun b hb => ?_, fun b hb => ?_⟩
      · show o' (c'.fb n) = some (3, n)
        rw [e2.1, ho']; exact if_pos rfl
      · have hb' : blk (c'.nv n) = some b := hb
        rw [e2.2.1] at hb'; cases hb'
      · have hb' : blk (c'.lv n) = some b := hb
        rw [e2.2.2] at hb'; cases hb'
  · show ((S.fs ++ [Fi.mk n [] []]).map Fi.name).Nodup
    rw [List.map_append, List.nodup_append]
    refine ⟨h.names, by simp, fun a ha b hb => ?_⟩
    obtain ⟨g, hg, rfl⟩ := List.mem_map.1 ha
    obtain rfl : b = n := by simpa using hb
    exact hne g hg
  · by_cases e : i = w.heap.size
    · subst e; exact ⟨hB, hz⟩
    · rw [ho'] at hi
      have hi2 : (if i = w.heap.size then some (3, n) else o i) ≠ none := hi
      rw [if_neg e] at hi2
      exact ⟨(h.inb i hi2).1, by have := (h.inb i hi2).2; omega⟩
end
end Go.Proofs.YtipankjajdpiiaaGreat

/- A disk's inner functions: what each answers. -/
namespace Go.Proofs.YtipankjajdpiiaaGreat
open Go.RowKit
set_option maxRecDepth 100000
set_option maxHeartbeats 400000

theorem sectors_any (n : Int) (w : World) (h0 : 0 ≤ n) (h1 : n ≤ 1000000000000) : Calls Tryz.prog 75 #[.int .i64 n] w fun e w' => e = .returned (.int .i64 (sectors n.toNat)) ∧ w = w' := by
  have e : (n + 64 - 1) / 64 = ((sectors n.toNat : Nat) : Int) := by unfold sectors; omega
  have E := Lib.hid e
  clear e
  go_enter Tryz.func75, Tryz.ntmps75
  go_wp2
  go_ret
  exact ⟨by rw [E.out]; rfl, rfl⟩
section
variable {w : World} {B d : Nat} {o : Own1} {S : Dk} {c : Con}
theorem begin_nil (w : World) : Calls Tryz.prog 73 #[.pointer none] w fun e w' => e = .returned (.int .i64 2) ∧ w = w' := by
  go_enter Tryz.func73, Tryz.ntmps73
  go_wp2
  go_ret
  exact ⟨rfl, rfl⟩
theorem begin_any (h : DI w B o d S c) : Calls Tryz.prog 73 #[.pointer (some ⟨d, 0, none⟩)] w fun e w' =>
    e = .returned (.int .i64 (if S.begin.dead then 6 else 0)) ∧ DI w' B o d S.begin c ∧ w.grownBy w' (some d) := by
  have hs := h.self
  have hc := hs.cell
  have hf := hs.frozen
  have hl := h.lim
  have H := Lib.hid h
  unfold selfC at hc hs
  have HS := Lib.hid hs
  clear h hs
  obtain ⟨fs, L, nl, q, a, dd⟩ := S
  simp only at hc hl
  by_cases h0 : 0 < a
  · by_cases h1 : a = 1
    · subst h1
      have hb : Dk.begin ⟨fs, L, nl, q, 1, dd⟩ = ⟨fs, L, nl, q, 0, true⟩ := by simp [Dk.begin]
      rw [hb]
      have HB := Lib.hid (DI.numbers H.out (gr_trans (gr_setCell w ⟨d, 3, none⟩ (.int .i64 0)) (gr_setCell (w.setCell ⟨d, 3, none⟩ (.int .i64 0)) ⟨d, 4, none⟩ (.bool true)) (.inl rfl)) q 0 true (by simpa [selfC] using (HS.out.set 3 (.int .i64 0)).set 4 (.bool true)) hl.1 (by omega))
      cases dd
      all_goals
        go_enter Tryz.func73, Tryz.ntmps73
        go_wp2
        go_ret
        exact ⟨rfl, HB.out, gr_trans (gr_setCell w ⟨d, 3, none⟩ _) (gr_setCell _ ⟨d, 4, none⟩ _) (.inl rfl)⟩
    · have hb : Dk.begin ⟨fs, L, nl, q, a, dd⟩ = ⟨fs, L, nl, q, a - 1, dd⟩ := by simp [Dk.begin, h0, h1]
      rw [hb]
      have e1 : ((a - 1 : Nat) : Int) = (a : Int) - 1 := by omega
      have ne0 : ((a : Int) - 1 == 0) = false := by rw [beq_eq_false_iff_ne]; omega
      have HB := Lib.hid (DI.numbers H.out (gr_trans (gr_setCell w ⟨d, 3, none⟩ (.int .i64 ((a : Int) - 1))) (gr_setCell (w.setCell ⟨d, 3, none⟩ (.int .i64 ((a : Int) - 1))) ⟨d, 4, none⟩ (.bool dd)) (.inl rfl)) q (a - 1) dd (by rw [selfC, e1]; simpa [selfC] using (HS.out.set 3 (.int .i64 ((a : Int) - 1))).set 4 (.bool dd)) hl.1 (by omega))
      clear e1
      cases dd
      all_goals
        go_enter Tryz.func73, Tryz.ntmps73
        go_wp2
        go_ret
        exact ⟨rfl, HB.out, gr_trans (gr_setCell w ⟨d, 3, none⟩ _) (gr_setCell _ ⟨d, 4, none⟩ _) (.inl rfl)⟩
  · have hb : Dk.begin ⟨fs, L, nl, q, a, dd⟩ = ⟨fs, L, nl, q, a, dd⟩ := by simp [Dk.begin, h0]
    rw [hb]
    cases dd
    all_goals
      go_enter Tryz.func73, Tryz.ntmps73
      go_wp2
      go_ret
      exact ⟨rfl, H.out, gr_refl _ _⟩
theorem look_nil (w : World) : Calls Tryz.prog 77 #[.pointer none] w fun e w' => e = .returned (.int .i64 2) ∧ w = w' := by
  go_enter Tryz.func77, Tryz.ntmps77
  go_wp2
  go_ret
  exact ⟨rfl, rfl⟩
theorem look_any (h : DI w B o d S c) : Calls Tryz.prog 77 #[.pointer (some ⟨d, 0, none⟩)] w fun e w' => e = .returned (.int .i64 (if S.dead then 6 else 0)) ∧ w = w' := by
  have hc := h.self.cell
  unfold selfC at hc
  clear h
  cases hd : S.dead
  all_goals
    rw [hd] at hc
    have Hd := Lib.hid hd
    clear hd
    go_enter Tryz.func77, Tryz.ntmps77
    go_wp2
    go_ret
    exact ⟨rfl, rfl⟩
end

theorem right_any (s : List UInt8) (w : World) (hs : s.length ≤ 1000000000) : Calls Tryz.prog 111 #[.string ⟨s.toArray⟩] w fun e w' => e = .returned (.bool (rightB s)) ∧ w.grownBy w' none := by
  have hmx : s.length ≤ maxLen := by unfold maxLen; omega
  go_enter Tryz.func111, Tryz.ntmps111
  go_wp2_with (refine wp_bytes rfl (.tmp 5) rfl s rfl hmx ?_; rintro v4 w4 h4 g4 ⟨c4, rfl⟩)
  obtain ⟨hl, A, c, g, off, e, hn, hc, hA0, hA, hx⟩ := h4.rd
  cases e
  have hoff : off = 0 ∨ s.length = 0 := by
    rcases Nat.eq_zero_or_pos s.length with e | e
    · exact .inr e
    · have := hA (by omega); cases this; exact .inl rfl
  have hcell : ∀ k, k < s.length → w4.cell? ⟨w.heap.size, k, none⟩ = some (.int .u8 (s.getD k 0).toNat) := fun k hk => by
    have e := hA (by omega)
    cases e
    have := hx k (by omega)
    rw [Nat.zero_add] at this
    rw [this, List.getElem?_map, List.getElem?_eq_getElem hk]
    simp [u8v, List.getD, hk]
  have Hcell := Lib.hid hcell
  have G4 := Lib.hid g4
  clear hcell hA hA0 hx h4 g4 hoff hl
  go_loop [8] (fun i => ∃ k : Nat, k ≤ s.length ∧ i = .int .i64 k ∧ (s.take k).all okChar = true) (fun i => s.length - (intOf i).toNat)
  case atStart => exact ⟨0, by omega, rfl, by simp⟩
  case round =>
    obtain ⟨k, hk, rfl, hall⟩ := hrel
    have Hall := Lib.hid hall
    clear hall
    by_cases hlt : k < s.length
    · have hc1 := Hcell.out k hlt
      have hg1 : s.getD k 0 = s[k] := by simp [List.getD, hlt]
      rw [hg1] at hc1
      have hok : Hid (okChar s[k] = true → (s.take (k + 1)).all okChar = true) := fun h => by
        rw [List.take_succ_eq_append_getElem hlt, List.all_append, Hall.out]; simp [h]
      have hno : Hid (okChar s[k] = false → rightB s = false) := fun h => by
        unfold rightB
        have : s.all okChar = false := by
          rw [Bool.eq_false_iff]
          intro h2
          rw [List.all_eq_true.1 h2 s[k] (List.getElem_mem hlt)] at h
          cases h
        rw [this]; rfl
      have hch : Hid (okChar s[k] = ((decide (97 ≤ (s[k].toNat : Int)) && decide ((s[k].toNat : Int) ≤ 122)) || ((decide (48 ≤ (s[k].toNat : Int)) && decide ((s[k].toNat : Int) ≤ 57)) || (((s[k].toNat : Int) == 46) || ((s[k].toNat : Int) == 45))))) := by
        show _ = _
        unfold okChar
        rw [Bool.eq_iff_iff]
        simp
        omega
      have hb := s[k].toNat_lt
      generalize s[k].toNat = x at *
      clear hg1
      have hcases : (x < 45 ∨ x = 47 ∨ (58 ≤ x ∧ x ≤ 96) ∨ 123 ≤ x) ∨ (x = 45 ∨ x = 46 ∨ (48 ≤ x ∧ x ≤ 57) ∨ (97 ≤ x ∧ x ≤ 122)) := by omega
      rcases hcases with hbad | hgood
      · have hfin : rightB s = false := by
          refine hno.out ?_
          rw [hch.out]
          simp
          omega
        have Hfin := Lib.hid hfin
        have b1 : ((x : Int) == 46) = false := by rw [beq_eq_false_iff_ne]; omega
        have b2 : ((x : Int) == 45) = false := by rw [beq_eq_false_iff_ne]; omega
        clear hch hok hno hfin Hall
        rcases hbad with h1 | h1 | ⟨h1, h2⟩ | h1
        · have h1' : (x : Int) < 45 := by omega
          go_wp2
          go_ret
          exact ⟨by rw [Hfin.out]; rfl, G4.out⟩
        · subst h1
          go_wp2
          go_ret
          exact ⟨by rw [Hfin.out]; rfl, G4.out⟩
        · have h1' : (58 : Int) ≤ x := by omega
          have h2' : (x : Int) ≤ 96 := by omega
          go_wp2
          go_ret
          exact ⟨by rw [Hfin.out]; rfl, G4.out⟩
        · have h1' : (123 : Int) ≤ x := by omega
          go_wp2
          go_ret
          exact ⟨by rw [Hfin.out]; rfl, G4.out⟩
      · have hfin : (s.take (k + 1)).all okChar = true := by
          refine hok.out ?_
          rw [hch.out]
          simp
          omega
        have Hfin := Lib.hid hfin
        clear hch hok hno hfin Hall
        rcases hgood with h1 | h1 | ⟨h1, h2⟩ | ⟨h1, h2⟩
        · subst h1
          go_wp2
          go_round
          case rel => exact ⟨k + 1, by omega, by go_num, Hfin.out⟩
          case measure => simp [intOf]; omega
        · subst h1
          go_wp2
          go_round
          case rel => exact ⟨k + 1, by omega, by go_num, Hfin.out⟩
          case measure => simp [intOf]; omega
        · have h1' : (48 : Int) ≤ x := by omega
          have h2' : (x : Int) ≤ 57 := by omega
          go_wp2
          go_round
          case rel => exact ⟨k + 1, by omega, by go_num, Hfin.out⟩
          case measure => simp [intOf]; omega
        · have h1' : (97 : Int) ≤ x := by omega
          have h2' : (x : Int) ≤ 122 := by omega
          go_wp2
          go_round
          case rel => exact ⟨k + 1, by omega, by go_num, Hfin.out⟩
          case measure => simp [intOf]; omega
    · have hall : s.all okChar = true := by rw [← Hall.out, List.take_of_length_le (by omega)]
      have hr : rightB s = (decide ((1 : Int) ≤ (s.length : Int)) && decide ((s.length : Int) ≤ 24)) := by
        unfold rightB
        rw [hall, Bool.eq_iff_iff]
        simp
        omega
      have Hr := Lib.hid hr
      clear hall hr Hall
      by_cases h1 : (1 : Int) ≤ (s.length : Int)
      · by_cases h2 : (s.length : Int) ≤ 24
        · go_wp2
          go_ret
          exact ⟨by rw [Hr.out]; simp [h1, h2], G4.out⟩
        · go_wp2
          go_ret
          exact ⟨by rw [Hr.out]; simp [h1, h2], G4.out⟩
      · go_wp2
        go_ret
        exact ⟨by rw [Hr.out, decide_eq_false (show ¬ (1 : Int) ≤ (s.length : Int) by omega)]; rfl, G4.out⟩
end Go.Proofs.YtipankjajdpiiaaGreat
