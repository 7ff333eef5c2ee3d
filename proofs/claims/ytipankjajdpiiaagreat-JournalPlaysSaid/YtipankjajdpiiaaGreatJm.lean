/-
  What is done with a journal and its disk, and what the document says of it: plain.
-/
import Derived.Test.YtipankjajdpiiaaGreatRl
import Derived.Test.YtipankjajdpiiaaGreatJs
import Derived.Test.YtipankjajdpiiaaGreatCut
import Derived.Test.YtipankjajdpiiaaGreatR2
namespace Go.Proofs.YtipankjajdpiiaaGreat
open Go.RowKit
set_option maxRecDepth 100000

theorem Sm.flipS {S : Dk} {a b : Nat} (h : Sm S a b) (n : List UInt8) (p : Nat) (u : UInt8) : Sm (S.flip n p u) a b := by
  refine ⟨?_, h.nl, fun s k hl => ?_⟩
  · show (setF S.fs n _).length ≤ a
    rw [setF_len]; exact h.fl
  · obtain ⟨f, h1, h2, h3⟩ := h.li s k hl
    have e : (S.flip n p u).find s = (S.find s).map fun f => if f.name = n then { f with now := flipL f.now p u, lasts := flipL f.lasts p u } else f := find_setF S.fs n s fun f => rfl
    rw [e, h1]
    refine ⟨_, rfl, h2, ?_⟩
    dsimp only
    split
    · show 64 * k < ((flipL f.now p u).length : Int)
      rw [flipL_len]; exact h3
    · exact h3
theorem Sm.flipA {S : Dk} {a b : Nat} (h : Sm S a b) (n : List UInt8) (k : Int) (u : UInt8) : Sm (S.flipA n k u).1 a b := by
  unfold Dk.flipA
  split
  · exact h
  · split
    · exact h
    · cases S.find n with
      | none => exact h
      | some f =>
        dsimp only
        split
        · exact h
        · exact h.flipS n k.toNat u
section
variable {S : Dk} {R : RD} {a b : Nat} {n : List UInt8}
theorem sim_flipA (h : Sim S R) (hs : Sm S a b) (n : List UInt8) (k : Int) (u : UInt8) : (R.flipA n k u).2 = (S.flipA n k u).2 ∧ Sim (S.flipA n k u).1 (R.flipA n k u).1 := by
  have hfi := h.find n
  unfold RD.flipA Dk.flipA
  rw [h.off]
  split
  · exact ⟨rfl, h⟩
  · split
    · exact ⟨rfl, h⟩
    · rw [hfi]
      cases R.find n with
      | none => exact ⟨rfl, h⟩
      | some f =>
        dsimp only [Option.map_some]
        rw [show f.fi.now = f.now from rfl]
        split
        · exact ⟨rfl, h⟩
        · exact ⟨rfl, sim_flip h n k.toNat u (hs.flipS n k.toNat u).li⟩
/-! Open -/
theorem sim_jsync (h : Sim S R) (hs : Sm S a b) (l : List Rc) : (R.jsync l).2 = (S.jsync l).2 ∧ Sim (S.jsync l).1 (R.jsync l).1 ∧ Sm (S.jsync l).1 a b := by
  obtain ⟨h1, h2⟩ := sim_sync h jn hs
  have h3 := hs.sync jn
  unfold RD.jsync Dk.jsync
  rw [h1]
  split
  · exact ⟨rfl, h2, h3⟩
  · exact ⟨rfl, h2, h3⟩
theorem sim_jcut (h : Sim S R) (hs : Sm S a b) (n : Nat) (l : List Rc) : (R.jcut n l).2 = (S.jcut n l).2 ∧ Sim (S.jcut n l).1 (R.jcut n l).1 ∧ Sm (S.jcut n l).1 a b := by
  obtain ⟨h1, h2⟩ := sim_cut h jn ((64 * l.length : Nat) : Int) hs
  have h3 := hs.cut jn ((64 * l.length : Nat) : Int)
  unfold RD.jcut Dk.jcut
  split
  · rw [h1]
    split
    · exact sim_jsync h2 h3 l
    · exact ⟨rfl, h2, h3⟩
  · exact sim_jsync h hs l
theorem sim_jrest (h : Sim S R) (hs : Sm S a b) (n : Nat) : (R.jrest n).2 = (S.jrest n).2 ∧ Sim (S.jrest n).1 (R.jrest n).1 ∧ Sm (S.jrest n).1 a b := by
  unfold RD.jrest Dk.jrest
  rw [sim_read h jn 0 (n : Int)]
  split
  · exact sim_jcut h hs n _
  · exact ⟨rfl, h, hs⟩
theorem create_size (hc : (S.create jn).2 = 0) : (S.create jn).1.size jn = (0, 0) := by
  unfold Dk.create at hc ⊢
  by_cases h1 : S.begin.dead = true
  · rw [if_pos h1] at hc; cases hc
  · rw [if_neg h1] at hc ⊢
    rw [if_neg (by rw [jn_right]; simp)] at hc ⊢
    by_cases h2 : (S.find jn).isSome = true
    · rw [if_pos h2] at hc; cases hc
    · rw [if_neg h2]
      unfold Dk.size
      rw [if_neg (by exact h1), if_neg (by rw [jn_right]; simp)]
      have h3 : S.find jn = none := by simpa using h2
      have h4 : ({ S.begin with fs := S.fs ++ [⟨jn, [], []⟩] } : Dk).find jn = some ⟨jn, [], []⟩ := by
        unfold Dk.find at h3 ⊢
        show (S.fs ++ [(⟨jn, [], []⟩ : Fi)]).find? _ = _
        rw [List.find?_append, h3]
        simp
      rw [h4]; rfl
theorem sim_jopen (h : Sim S R) (hs : Sm S a b) : R.jopen.2 = S.jopen.2 ∧ Sim S.jopen.1 R.jopen.1 ∧ Sm S.jopen.1 (a + 1) b := by
  obtain ⟨h1, h2⟩ := sim_create h jn hs
  have h3 := hs.create jn
  have hs' := hs.mono (a' := a + 1) (b' := b) (by omega) (Nat.le_refl _)
  unfold RD.jopen Dk.jopen RD.jmade
  rw [sim_size h jn, h1]
  split
  · split
    · next hc =>
      rw [sim_size h2 jn, create_size hc]
      exact sim_jrest h2 h3 0
    · exact ⟨rfl, h2, h3⟩
  · split
    · exact sim_jrest h hs' _
    · exact ⟨rfl, h, hs'⟩
theorem sim_jadd (h : Sim S R) (hs : Sm S a b) (l : List Rc) (x : Rc) : (R.jadd l x).2 = (S.jadd l x).2 ∧ Sim (S.jadd l x).1 (R.jadd l x).1 ∧ Sm (S.jadd l x).1 a (b + 64) := by
  obtain ⟨h1, h2⟩ := sim_write h jn ((64 * l.length : Nat) : Int) (secB (l.length + 1) x) hs
  have h3 := hs.write jn ((64 * l.length : Nat) : Int) (secB (l.length + 1) x)
  rw [secB_len] at h3
  obtain ⟨h4, h5⟩ := sim_sync h2 jn h3
  have h6 := h3.sync jn
  have hs' := hs.mono (a' := a) (b' := b + 64) (Nat.le_refl _) (by omega)
  unfold RD.jadd Dk.jadd
  rw [h1, h4]
  split
  · exact ⟨rfl, h, hs'⟩
  · split
    · exact ⟨rfl, h, hs'⟩
    · split
      · split
        · exact ⟨rfl, h5, h6⟩
        · exact ⟨rfl, h5, h6⟩
      · exact ⟨rfl, h2, h3⟩
theorem sim_jback (h : Sim S R) (hs : Sm S a b) (l : List Rc) (k : Int) : (R.jback l k).2 = (S.jback l k).2 ∧ Sim (S.jback l k).1 (R.jback l k).1 ∧ Sm (S.jback l k).1 a b := by
  obtain ⟨h1, h2⟩ := sim_cut h jn (64 * k) hs
  have h3 := hs.cut jn (64 * k)
  obtain ⟨h4, h5⟩ := sim_sync h2 jn h3
  have h6 := h3.sync jn
  unfold RD.jback Dk.jback
  rw [h1, h4]
  split
  · exact ⟨rfl, h, hs⟩
  · split
    · split
      · exact ⟨rfl, h5, h6⟩
      · exact ⟨rfl, h5, h6⟩
    · exact ⟨rfl, h2, h3⟩
end
def Dk.jaddO (S : Dk) : Option (List Rc) → Rc → Dk × Option (List Rc) × Nat
  | none, _ => (S, none, 2)
  | some l, x => ((S.jadd l x).1, some (S.jadd l x).2.1, (S.jadd l x).2.2)
def Dk.jbackO (S : Dk) : Option (List Rc) → Int → Dk × Option (List Rc) × Nat
  | none, _ => (S, none, 2)
  | some l, x => ((S.jback l x).1, some (S.jback l x).2.1, (S.jback l x).2.2)
def RD.jaddO (S : RD) : Option (List Rc) → Rc → RD × Option (List Rc) × Nat
  | none, _ => (S, none, 2)
  | some l, x => ((S.jadd l x).1, some (S.jadd l x).2.1, (S.jadd l x).2.2)
def RD.jbackO (S : RD) : Option (List Rc) → Int → RD × Option (List Rc) × Nat
  | none, _ => (S, none, 2)
  | some l, x => ((S.jback l x).1, some (S.jback l x).2.1, (S.jback l x).2.2)
/-- what is done, with the program's disk: the disk, the journal's records, what is told. -/
def Dk.jdo (S : Dk) (j : Option (List Rc)) (o : OpJ) (X : Dk × Option (List Rc) × Nat) : Prop :=
  if o.kind = 0 then X = S.jopen
  else if o.kind = 1 then X = S.jaddO j o.r
  else if o.kind = 2 then X = S.jbackO j o.n
  else if o.kind = 3 then X = ((S.arm o.n).1, j, (S.arm o.n).2)
  else if o.kind = 4 then (if S.dead = true then ∃ ls, LsIs S ls ∧ X = (S.lit (onT S o.keep ls ls.length), j, 0) else X = (S, j, 14))
  else if o.kind = 5 then X = ((S.write jn o.n o.b).1, j, (S.write jn o.n o.b).2)
  else if o.kind = 6 then X = ((S.flipA jn o.n o.mask).1, j, (S.flipA jn o.n o.mask).2)
  else if o.kind = 7 then X = ((S.setQuota o.n).1, j, (S.setQuota o.n).2)
  else X = (S, j, 0)
def RD.jdo (S : RD) (j : Option (List Rc)) (o : OpJ) : RD × Option (List Rc) × Nat :=
  if o.kind = 0 then S.jopen
  else if o.kind = 1 then S.jaddO j o.r
  else if o.kind = 2 then S.jbackO j o.n
  else if o.kind = 3 then ((S.arm o.n).1, j, (S.arm o.n).2)
  else if o.kind = 4 then (if S.off = true then (S.on o.keep, j, 0) else (S, j, 14))
  else if o.kind = 5 then ((S.write jn o.n o.b).1, j, (S.write jn o.n o.b).2)
  else if o.kind = 6 then ((S.flipA jn o.n o.mask).1, j, (S.flipA jn o.n o.mask).2)
  else if o.kind = 7 then ((S.setQuota o.n).1, j, (S.setQuota o.n).2)
  else (S, j, 0)
theorem sim_jdo {S : Dk} {R : RD} {a b : Nat} (h : Sim S R) (hs : Sm S a b) (hok : ∀ s k, S.loose s k = true → okK s k) {j : Option (List Rc)} {o : OpJ} {X : Dk × Option (List Rc) × Nat} (hX : S.jdo j o X) :
    (R.jdo j o).2 = X.2 ∧ Sim X.1 (R.jdo j o).1 ∧ Sm X.1 (a + 1) (b + 64 + o.b.length) := by
  have hs' := hs.mono (a' := a + 1) (b' := b + 64 + o.b.length) (by omega) (by omega)
  unfold Dk.jdo at hX
  unfold RD.jdo
  split at hX
  · next e =>
    rw [if_pos e, hX]
    obtain ⟨h1, h2, h3⟩ := sim_jopen h hs
    exact ⟨h1, h2, h3.mono (Nat.le_refl _) (by omega)⟩
  · next e =>
    rw [if_neg e]
    split at hX
    · next e =>
      rw [if_pos e]
      cases j with
      | none => rw [hX]; exact ⟨rfl, h, hs'⟩
      | some l =>
        rw [hX]
        obtain ⟨h1, h2, h3⟩ := sim_jadd h hs l o.r
        exact ⟨by show (some _, _) = (some _, _); rw [h1], h2, h3.mono (by omega) (by omega)⟩
    · next e =>
      rw [if_neg e]
      split at hX
      · next e =>
        rw [if_pos e]
        cases j with
        | none => rw [hX]; exact ⟨rfl, h, hs'⟩
        | some l =>
          rw [hX]
          obtain ⟨h1, h2, h3⟩ := sim_jback h hs l o.n
          exact ⟨by show (some _, _) = (some _, _); rw [h1], h2, h3.mono (by omega) (by omega)⟩
      · next e =>
        rw [if_neg e]
        split at hX
        · next e =>
          rw [if_pos e, hX]
          obtain ⟨h1, h2⟩ := sim_arm h o.n
          exact ⟨by dsimp only; rw [h1], h2, (hs.arm o.n).mono (by omega) (by omega)⟩
        · next e =>
          rw [if_neg e]
          split at hX
          · next e =>
            rw [if_pos e, h.off]
            split at hX
            · next hd =>
              rw [if_pos hd]
              obtain ⟨ls, hls, rfl⟩ := hX
              exact ⟨rfl, sim_on h o.keep hls hok, (hs.lit _).mono (by omega) (by omega)⟩
            · next hd =>
              rw [if_neg hd, hX]
              exact ⟨rfl, h, hs'⟩
          · next e =>
            rw [if_neg e]
            split at hX
            · next e =>
              rw [if_pos e, hX]
              obtain ⟨h1, h2⟩ := sim_write h jn o.n o.b hs
              exact ⟨by dsimp only; rw [h1], h2, (hs.write jn o.n o.b).mono (by omega) (by omega)⟩
            · next e =>
              rw [if_neg e]
              split at hX
              · next e =>
                rw [if_pos e, hX]
                obtain ⟨h1, h2⟩ := sim_flipA h hs jn o.n o.mask
                exact ⟨by dsimp only; rw [h1], h2, (hs.flipA jn o.n o.mask).mono (by omega) (by omega)⟩
              · next e =>
                rw [if_neg e]
                split at hX
                · next e =>
                  rw [if_pos e, hX]
                  obtain ⟨h1, h2⟩ := sim_quota h o.n
                  exact ⟨by dsimp only; rw [h1], h2, (hs.setQuota o.n).mono (by omega) (by omega)⟩
                · next e =>
                  rw [if_neg e, hX]
                  exact ⟨rfl, h, hs'⟩
theorem Sim.up_ {S : Dk} {R : RD} (h : Sim S R) : Up R := h.up
theorem Sim.lo {S : Dk} {R : RD} (h : Sim S R) : ∀ f ∈ R.L, ∀ k : Nat, f.loose.getD k false = true → 64 * k < f.now.length := fun f hf k hk => by
  rw [h.loose f hf k] at hk
  obtain ⟨g, hg, _, h2⟩ := h.li f.n k hk
  have hp : f.fi ∈ S.fs := h.fs.mem_iff.1 (List.mem_map.2 ⟨f, hf, rfl⟩)
  have hn : (S.fs.map Fi.name).Nodup := (h.fs.map Fi.name).nodup_iff.1 (by rw [map_fi_name]; exact h.nodup)
  have : S.find f.n = some f.fi := find_mem hn hp
  rw [this] at hg
  cases hg
  have h3 : f.fi.now = f.now := rfl
  rw [h3] at h2
  omega
theorem loose_okK {w : World} {B d : Nat} {o : Own1} {S : Dk} {c : Con} (h : DI w B o d S c) (hli : LooseIn S) : ∀ s k, S.loose s k = true → okK s k := fun s k hl => by
  obtain ⟨f, hf, h0, h1⟩ := hli s k hl
  obtain ⟨hm, hn⟩ := find_some hf
  have hsm := (h.file f hm).small
  refine ⟨by rw [← hn]; unfold maxLen; omega, ?_⟩
  have hb := hsm.2.1
  exact WalkArith.wf_i64 (by omega)
end Go.Proofs.YtipankjajdpiiaaGreat

/- A journal and its disk, the program's and the document's, seen from an older world. -/
namespace Go.Proofs.YtipankjajdpiiaaGreat
open Go.RowKit Go.Maps
set_option maxRecDepth 100000

/-- the program's. -/
def PJ (w0 : World) (d : Nat) (jv : Value) (S : Dk) (j : Option (List Rc)) (O : Own1) (w : World) : Prop :=
  (j = none ∧ jv = .pointer none ∧ DA w0 d O S w) ∨ (∃ l b o v, j = some l ∧ jv = .pointer (some ⟨b, 0, none⟩) ∧ O = jo o b v ∧ DA w0 d o S w ∧ JR w w0.heap.size o b d v l)
/-- the document's. -/
def RJ (w0 : World) (r : Nat) (jv : Value) (R : RD) (j : Option (List Rc)) (O : Own1) (w : World) : Prop :=
  (j = none ∧ jv = .pointer none ∧ RS w0 w r O R) ∨ (∃ l b o v, j = some l ∧ jv = .pointer (some ⟨b, 0, none⟩) ∧ O = jo o b v ∧ RS w0 w r o R ∧ RJR w w0.heap.size o b r v l)
section
variable {w0 w w' w1 : World} {d r b B : Nat} {jv v : Value} {S S' : Dk} {R R' : RD} {j j' : Option (List Rc)} {l : List Rc} {O O' O1 O1' o o' : Own1}
theorem jo_mem {i : Nat} (h : jo o b v i ≠ none) : i = b ∨ blk v = some i ∨ o i ≠ none := by
  unfold jo at h
  split at h
  · next h2 => exact h2.elim .inl fun e => .inr (.inl e)
  · exact .inr (.inr h)
theorem PJ.gr (h : PJ w0 d jv S j O w) : w0.grownBy w none := by
  rcases h with ⟨-, -, h⟩ | ⟨l, b, o, v, -, -, -, h, -⟩
  · exact h.gr
  · exact h.gr
theorem RJ.gr (h : RJ w0 r jv R j O w) : w0.grownBy w none := by
  rcases h with ⟨-, -, h⟩ | ⟨l, b, o, v, -, -, -, h, -⟩
  · exact h.gr
  · exact h.gr
theorem PJ.inb (h : PJ w0 d jv S j O w) {i : Nat} (hi : O i ≠ none) : w0.heap.size ≤ i ∧ i < w.heap.size := by
  rcases h with ⟨-, -, h⟩ | ⟨l, b, o, v, -, -, rfl, h, hj⟩
  · exact ⟨h.own0 i hi, h.own1 i hi⟩
  · rcases jo_mem hi with rfl | e | e
    · exact ⟨hj.jB, hj.box.lt⟩
    · exact Own.blk_lt hj.own (by omega) e
    · exact ⟨h.own0 i e, h.own1 i e⟩
theorem RJ.inb (h : RJ w0 r jv R j O w) {i : Nat} (hi : O i ≠ none) : w0.heap.size ≤ i ∧ i < w.heap.size := by
  rcases h with ⟨-, -, h⟩ | ⟨l, b, o, v, -, -, rfl, h, hj⟩
  · obtain ⟨A, N, c, l, h, -⟩ := h; exact h.inb i hi
  · rcases jo_mem hi with rfl | e | e
    · exact ⟨hj.jB, hj.box.lt⟩
    · exact Own.blk_lt hj.own (by omega) e
    · obtain ⟨A, N, c, l, h, -⟩ := h; exact h.inb i e
theorem PJ.fresh (h : PJ w0 d jv S j O w) {i : Nat} (hi : w.heap.size ≤ i) : O i = none := by
  cases e : O i with
  | none => rfl
  | some t => have := (h.inb (i := i) (by rw [e]; simp)).2; omega
theorem RJ.fresh (h : RJ w0 r jv R j O w) {i : Nat} (hi : w.heap.size ≤ i) : O i = none := by
  cases e : O i with
  | none => rfl
  | some t => have := (h.inb (i := i) (by rw [e]; simp)).2; omega
theorem jo_off (hd : Dsj (jo o b v) O1) : Dsj o O1 ∧ O1 b = none ∧ ∀ k, blk v = some k → O1 k = none := by
  refine ⟨Dsj.mk fun i hi => hd.off i ?_, hd.off b ?_, fun k e => hd.off k ?_⟩
  · unfold jo; split
    · simp
    · exact hi
  · unfold jo; rw [if_pos (.inl rfl)]; simp
  · unfold jo; rw [if_pos (.inr e)]; simp
/-- what is done beside leaves it as it is. -/
theorem PJ.keep (h : PJ w0 d jv S j O w) (hc : Ch O1 w O1' w') (hd : Dsj O O1) (hg : w0.grownBy w' none) : PJ w0 d jv S j O w' ∧ Dsj O O1' := by
  refine ⟨?_, Dsj.mk fun i hi => hc.free i (h.inb hi).2 (hd.off i hi)⟩
  rcases h with ⟨e1, e2, h⟩ | ⟨l, b, o, v, e1, e2, rfl, h, hj⟩
  · exact .inl ⟨e1, e2, (h.beside hc hd hg).1⟩
  · obtain ⟨h1, h2, h3⟩ := jo_off hd
    have hbl : ∀ k, blk v = some k → w'.heap[k]? = w.heap[k]? := fun k e => hc.block k (Own.blk_lt hj.own (by omega) e).2 (h3 k e)
    exact .inr ⟨l, b, o, v, e1, e2, rfl, (h.beside hc h1 hg).1, hj.box.same (hc.block b hj.box.lt h2), Own.same hj.own hbl, hj.free, hj.jB, hj.sep⟩
theorem RJ.keep (h : RJ w0 r jv R j O w) (hc : Ch O1 w O1' w') (hd : Dsj O O1) (hg : w0.grownBy w' none) : RJ w0 r jv R j O w' ∧ Dsj O O1' := by
  refine ⟨?_, Dsj.mk fun i hi => hc.free i (h.inb hi).2 (hd.off i hi)⟩
  rcases h with ⟨e1, e2, h⟩ | ⟨l, b, o, v, e1, e2, rfl, h, hj⟩
  · exact .inl ⟨e1, e2, (h.keep hc hd hg).1⟩
  · obtain ⟨h1, h2, h3⟩ := jo_off hd
    have hbl : ∀ k, blk v = some k → w'.heap[k]? = w.heap[k]? := fun k e => hc.block k (Own.blk_lt hj.own (by omega) e).2 (h3 k e)
    exact .inr ⟨l, b, o, v, e1, e2, rfl, (h.keep hc h1 hg).1, hj.box.same (hc.block b hj.box.lt h2), Own.same hj.own hbl, hj.free, hj.jB, hj.sep⟩
theorem PJ.ext (h : PJ w0 d jv S j O w) (g : w.grownBy w' none) : PJ w0 d jv S j O w' := (h.keep (Ch.ext (o := fun _ => none) g) (fun _ => .inr rfl) (gr_none h.gr g)).1
theorem RJ.ext (h : RJ w0 r jv R j O w) (g : w.grownBy w' none) : RJ w0 r jv R j O w' := (h.keep (Ch.ext (o := fun _ => none) g) (fun _ => .inr rfl) (gr_none h.gr g)).1
/-- behind an operation of the disk alone. -/
theorem PJ.disk (h : PJ w0 d jv S j O w) : ∃ o, DA w0 d o S w ∧ ∀ S' w', DP w0 d o S' w w' → ∃ O', PJ w0 d jv S' j O' w' ∧ Ch O w O' w' := by
  rcases h with ⟨e1, e2, h⟩ | ⟨l, b, o, v, e1, e2, rfl, h, hj⟩
  · exact ⟨O, h, fun S' w' ⟨o', k1, k2⟩ => ⟨o', .inl ⟨e1, e2, k1⟩, k2⟩⟩
  · exact ⟨o, h, fun S' w' ⟨o', k1, k2⟩ => ⟨jo o' b v, .inr ⟨l, b, o', v, e1, e2, rfl, k1, hj.ch k2⟩, k2.jo⟩⟩
theorem RJ.disk (h : RJ w0 r jv R j O w) : ∃ o, RS w0 w r o R ∧ ∀ R' w', RSn w0 r o R' w w' → ∃ O', RJ w0 r jv R' j O' w' ∧ Ch O w O' w' := by
  rcases h with ⟨e1, e2, h⟩ | ⟨l, b, o, v, e1, e2, rfl, h, hj⟩
  · exact ⟨O, h, fun S' w' ⟨o', k1, k2⟩ => ⟨o', .inl ⟨e1, e2, k1⟩, k2⟩⟩
  · exact ⟨o, h, fun S' w' ⟨o', k1, k2⟩ => ⟨jo o' b v, .inr ⟨l, b, o', v, e1, e2, rfl, k1, hj.ch k2⟩, k2.jo⟩⟩
theorem jo_of (hc : Ch o w o' w') (hb : w.heap.size ≤ b) (hv : ∀ k, blk v = some k → w.heap.size ≤ k) : Ch o w (jo o' b v) w' :=
  ⟨hc.os, hc.tape, hc.output, hc.size, hc.block, fun i hi h0 => jo_none_mk (by omega) (fun e => by have := hv i e; omega) (hc.free i hi h0)⟩
/-- what an operation leaves, and what it tells. -/
def PDone (w0 : World) (d : Nat) (O : Own1) (w : World) (X : Dk × Option (List Rc) × Nat) (e : Ending) (w' : World) : Prop :=
  ∃ jv O', e = .returned (.tuple #[.int .i64 X.2.2, jv]) ∧ PJ w0 d jv X.1 X.2.1 O' w' ∧ Ch O w O' w'
def RDone (w0 : World) (r : Nat) (O : Own1) (w : World) (X : RD × Option (List Rc) × Nat) (e : Ending) (w' : World) : Prop :=
  ∃ jv O', e = .returned (.tuple #[.int .i64 X.2.2, jv]) ∧ RJ w0 r jv X.1 X.2.1 O' w' ∧ Ch O w O' w'
end
end Go.Proofs.YtipankjajdpiiaaGreat
