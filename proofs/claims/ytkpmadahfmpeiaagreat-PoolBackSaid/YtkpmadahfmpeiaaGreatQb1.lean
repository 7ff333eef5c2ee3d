/-
  Two pools, each over a disk of its own, side by side.
-/
import Derived.Test.YtkpmadahfmpeiaaGreatQk1
import Derived.Test.YtkpmadahfmpeiaaGreatInt
import Derived.Test.YtkpmadahfmpeiaaGreatRg
namespace Go.Proofs.YtkpmadahfmpeiaaGreat
open Go.RowKit Go.Maps
set_option maxRecDepth 100000
set_option maxHeartbeats 400000

/-- nothing is owned twice. -/
def Dsj (O1 O2 : Own1) : Prop := ∀ i, O1 i = none ∨ O2 i = none
section
variable {w0 w w' w1 : World} {d p m B : Nat} {o O O1 O1' O2 : Own1} {S : Dk} {F : List Fz} {L : List (List UInt8)}
theorem Dsj.symm (h : Dsj O1 O2) : Dsj O2 O1 := fun i => (h i).symm
theorem Dsj.off (h : Dsj O1 O2) (i : Nat) (hi : O1 i ≠ none) : O2 i = none := (h i).resolve_left hi
theorem Dsj.mk (h : ∀ i, O1 i ≠ none → O2 i = none) : Dsj O1 O2 := fun i => by
  cases e : O1 i with
  | none => exact .inl rfl
  | some t => exact .inr (h i (by rw [e]; simp))
theorem DI.lowB {c : Con} (h : DI w B o d S c) {B' : Nat} (hB : B' ≤ B) : DI w B' o d S c :=
  { h with
    file := fun f hf => ⟨(h.file f hf).box, (h.file f hf).now.mono hB, (h.file f hf).lasts.mono hB, (h.file f hf).small⟩
    inb := fun i hi => ⟨Nat.le_trans hB (h.inb i hi).1, (h.inb i hi).2⟩ }
theorem DA.low (h : DA w1 d o S w) (g : w0.grownBy w1 none) : DA w0 d o S w := by
  obtain ⟨⟨c, h1⟩, h2⟩ := h
  exact ⟨⟨c, h1.lowB g.size⟩, gr_none g h2⟩
theorem DA.beside (h : DA w0 d o S w) (hc : Ch O1 w O1' w') (hd : Dsj o O1) (hg : w0.grownBy w' none) : DA w0 d o S w' ∧ Dsj o O1' := by
  obtain ⟨⟨c, h1⟩, h2⟩ := h
  exact ⟨⟨⟨c, h1.keep hc.size fun i hi => hc.block i (h1.inb i hi).2 (hd.off i hi)⟩, hg⟩, Dsj.mk fun i hi => hc.free i (h1.inb i hi).2 (hd.off i hi)⟩
theorem PF.beside (h : PF w0 d p O F L m w) (hc : Ch O1 w O1' w') (hd : Dsj O O1) (hg : w0.grownBy w' none) : PF w0 d p O F L m w' ∧ Dsj O O1' := by
  obtain ⟨Q, S, h1, h2⟩ := h
  obtain ⟨k1, k2⟩ := h1.keep hc hd.off hg
  exact ⟨⟨Q, S, k1, h2⟩, Dsj.mk k2⟩
/-- two pools of the same files. -/
structure P2 (w0 : World) (d p f q : Nat) (O1 O2 : Own1) (F : List Fz) (L1 L2 : List (List UInt8)) (m : Nat) (w : World) : Prop where
  one : PF w0 d p O1 F L1 m w
  two : PF w0 f q O2 F L2 m w
  apart : Dsj O1 O2
theorem P2.ext {f q : Nat} {L2 : List (List UInt8)} (h : P2 w0 d p f q O1 O2 F L L2 m w) (g : w.grownBy w' none) : P2 w0 d p f q O1 O2 F L L2 m w' := ⟨h.one.ext g, h.two.ext g, h.apart⟩
end
end Go.Proofs.YtkpmadahfmpeiaaGreat

/- PoolBack: a disk of files that were flushed, behind a loss of power. -/
namespace Go.Proofs.YtkpmadahfmpeiaaGreat
open Go.RowKit Go.Maps
set_option maxRecDepth 100000
set_option maxHeartbeats 400000

/-- behind the loss: what lasts. -/
def Dk.born (S : Dk) : Dk := S.off.lit S.lastsOf
def bornG (x : Ge) : Ge := ⟨⟨x.fi.name, x.fi.now, x.fi.now⟩, x.pages, x.m⟩
section
variable {N m : Nat} {Q : Pm} {S : Dk} {F : List Fz} {G : List Ge} {fr : List Fr}
theorem born_fs (h : AbG 65536 N fr S G) (hc : ∀ x ∈ G, x.fi.lasts = x.fi.now) : S.born.fs = (G.map bornG).map Ge.fi := by
  show S.fs.map (fun f => (⟨f.name, S.lastsOf f.name, S.lastsOf f.name⟩ : Fi)) = _
  rw [h.fs, List.map_map, List.map_map]
  refine List.map_congr_left fun x hx => ?_
  have hf := h.find hx
  show (⟨x.fi.name, S.lastsOf x.fi.name, S.lastsOf x.fi.name⟩ : Fi) = ⟨x.fi.name, x.fi.now, x.fi.now⟩
  rw [lastsOf_some hf, hc x hx]
theorem Ab.born (h : Ab 65536 N Q S F) (hc : ∀ n ∈ namesF F, Flushed Q S n) : Ab 65536 N (pm0 1) S.born F := by
  obtain ⟨G, hG, rfl⟩ := h.ex
  have hcl : ∀ x ∈ G, Flushed Q S x.fi.name := fun x hx => hc _ (by
    unfold namesF
    rw [List.map_map]
    exact List.mem_map.2 ⟨x, hx, rfl⟩)
  have h0 : ∀ (i : Nat) (f : Fr), (pm0 1).fr[i]? = some f → f = fr0 := fun i f hf => pm0_at 1 i f hf
  refine ⟨⟨G.map bornG, ⟨⟨rfl, rfl⟩, hG.quota, born_fs hG fun x hx => (hcl x hx).lasts _ (hG.find hx), ?_, ?_, ?_, ?_, ?_, ?_⟩, ?_⟩, by show 0 < (List.replicate 1 fr0).length; simp, fun i f hf => by rw [h0 i f hf]; rfl⟩
  · rw [List.map_map]; exact hG.nodup
  · intro y hy
    obtain ⟨x, hx, rfl⟩ := List.mem_map.1 hy
    have ho := hG.ok x hx
    obtain ⟨e1, -⟩ := hG.flushed hx (hcl x hx).clean
    have hnd : ∀ j, ¬ dirtyAt Q.fr x.fi.name j := fun j ⟨i, f, k1, k2, k3, k4, _⟩ => by
      rw [(hcl x hx).clean i f k1 k2 k4] at k3; cases k3
    refine ⟨ho.right, ho.le, ho.len, fun j b hj hb _ => ho.at_ j b hj hb (hnd j), fun j h1 h2 => ?_, ho.small⟩
    have h1' : x.m ≤ j := h1
    have h2' : j < x.pages.length := h2
    omega
  · have e : sumP (G.map bornG) = sumP G := by unfold sumP; rw [List.map_map]; rfl
    rw [e]; exact hG.total
  · intro i f hf h1; rw [h0 i f hf] at h1; cases h1
  · intro i f hf _; rw [h0 i f hf]; rfl
  · intro i j f g hf hg h1; rw [h0 i f hf] at h1; cases h1
  · rw [List.map_map]; rfl
theorem Sz.born (h : Sz m Q S) : Sz m (pm0 1) S.born := by
  refine ⟨⟨?_, Nat.zero_le _, fun s k hl => by cases hl⟩, by show (List.replicate 1 fr0).length ≤ 64; simp, fun i f hf => by rw [pm0_at 1 i f hf]; simp [fr0]⟩
  show (S.fs.map _).length ≤ m
  rw [List.length_map]; exact h.sm.fl
end
/-- a disk of files that were flushed: 0 the power is on, 1 it goes at the next operation, 2 it is off. -/
def stage (S : Dk) : Nat → Dk
  | 0 => S
  | 1 => { S with armed := 1 }
  | _ => S.off
def LostD (w0 : World) (d : Nat) (o : Own1) (F : List Fz) (m st : Nat) (w : World) : Prop := ∃ Q S, Ab 65536 m Q S F ∧ Sz m Q S ∧ (∀ n ∈ namesF F, Flushed Q S n) ∧ DA w0 d o (stage S st) w
def BornD (w0 : World) (d : Nat) (o : Own1) (F : List Fz) (m : Nat) (w : World) : Prop := ∃ S, Ab 65536 m (pm0 1) S F ∧ Sz m (pm0 1) S ∧ DA w0 d o S w
section
variable {w0 w w' : World} {d p m : Nat} {o O : Own1} {F : List Fz} {L : List (List UInt8)}
theorem PF.lost (h : PF w0 d p O F L m w) (hL : ∀ s ∈ namesF F, s ∈ L) : ∃ o, (∀ i, O i = none → o i = none) ∧ LostD w0 d o F m 0 w := by
  obtain ⟨Q, S, h1, h2, h3, h4⟩ := h
  have hg := h1.gr
  obtain ⟨o, c, g, mb, rfl, k1, k2⟩ := h1.ex
  exact ⟨o, fun i hi => (po_none (owF_none hi).1).2.2.2, Q, S, h2, h3, fun n hn => h4 n (hL n hn), ⟨c, k1⟩, hg⟩
theorem LostD.gr {st : Nat} (h : LostD w0 d o F m st w) : w0.grownBy w none := by obtain ⟨Q, S, -, -, -, h⟩ := h; exact h.gr
theorem LostD.ext {st : Nat} (h : LostD w0 d o F m st w) (g : w.grownBy w' none) : LostD w0 d o F m st w' := by obtain ⟨Q, S, h1, h2, h3, h4⟩ := h; exact ⟨Q, S, h1, h2, h3, h4.ext g⟩
theorem LostD.arm (h : LostD w0 d o F m 0 w) : Calls Tryz.prog 17 #[.pointer (some ⟨d, 0, none⟩), .int .i64 1] w fun e w' => e = .returned (.int .i64 0) ∧ ∃ o', LostD w0 d o' F m 1 w' ∧ Ch o w o' w' := by
  obtain ⟨Q, S, h1, h2, h3, h4⟩ := h
  obtain ⟨G, hG, hF⟩ := h1.ex
  have e : S.arm 1 = ({ S with armed := 1 }, 0) := by
    unfold Dk.arm
    rw [if_neg (by omega), if_neg (by rw [hG.idle.2]; simp)]; rfl
  have h4' : DA w0 d o S w := h4
  have := h4'.arm 1 (by omega)
  rw [e] at this
  exact this.mono fun e w' ⟨e1, o', k1, k2⟩ => ⟨e1, o', ⟨Q, S, h1, h2, h3, k1⟩, k2⟩
theorem LostD.create (h : LostD w0 d o F m 1 w) (hm : m ≤ 9000) (n : List UInt8) (hn : n.length ≤ 1000000000) : Calls Tryz.prog 18 #[.pointer (some ⟨d, 0, none⟩), .string ⟨n.toArray⟩] w fun e w' => e = .returned (.int .i64 6) ∧ ∃ o', LostD w0 d o' F m 2 w' ∧ Ch o w o' w' := by
  obtain ⟨Q, S, h1, h2, h3, h4⟩ := h
  have h4' : DA w0 d o { S with armed := 1 } w := h4
  have := h4'.create n hn (by have := h2.sm.fl; show S.fs.length ≤ _; omega)
  rw [create_off] at this
  exact this.mono fun e w' ⟨e1, o', k1, k2⟩ => ⟨e1, o', ⟨Q, S, h1, h2, h3, k1⟩, k2⟩
theorem LostD.on (h : LostD w0 d o F m 2 w) (hm : m ≤ 9000) : Calls Tryz.prog 19 #[.pointer (some ⟨d, 0, none⟩), .slice none 0 0] w fun e w' => e = .returned (.int .i64 0) ∧ ∃ o', BornD w0 d o' F m w' ∧ Ch o w o' w' := by
  obtain ⟨Q, S, h1, h2, h3, h4⟩ := h
  have h4' : DA w0 d o S.off w := h4
  refine (h4'.on (kv := .slice none 0 0) (keep := []) (Sm.off h2.sm).li (by have := h2.sm.nl; show S.nl ≤ _; omega) (by have := h2.sm.fl; show S.fs.length ≤ _; omega) rfl (Rd.nil _ _) (by simp)).mono ?_
  rintro e w' ⟨e1, ls, -, o', k1, k2⟩
  rw [onT_nil] at k1
  exact ⟨e1, o', ⟨S.born, h1.born h3, h2.born, k1⟩, k2⟩
theorem BornD.new (h : BornD w0 d o F m w) : Calls Tryz.prog 11 #[.pointer (some ⟨d, 0, none⟩), .int .i64 1] w fun e w' => ∃ p O, e = .returned (.tuple #[.pointer (some ⟨p, 0, none⟩), .int .i64 0]) ∧ PF w0 d p O F [] m w' ∧ Ch o w O w' := by
  obtain ⟨S, h1, h2, h3⟩ := h
  exact (h3.ponew 1 (by omega) (by omega)).mono fun _ _ ⟨p, O, e, k1, k2⟩ => ⟨p, O, e, ⟨_, _, k1, h1, h2, fun s hs => by cases hs⟩, k2⟩
end
end Go.Proofs.YtkpmadahfmpeiaaGreat

/- PoolBack: the law's own list of files, beside the pool. -/
namespace Go.Proofs.YtkpmadahfmpeiaaGreat
open Go.RowKit Go.Maps
set_option maxRecDepth 100000
set_option maxHeartbeats 400000

theorem Tryz.infoBb : (Tryz.prog.info? 33).map (fun i => (i.zero, i.size, i.bytes)) = some (some (.slice none 0 0), 1, 24) := by kernel_rfl
theorem Tryz.infoBk : (Tryz.prog.info? 43).map (fun i => (i.zero, i.size, i.bytes)) = some (some (.agg #[.string ⟨#[]⟩, .slice none 0 0]), 2, 40) := by kernel_rfl
/-- a file of the list: its name, the slice of its pages, and each page's slice with its bytes. -/
structure Bk where
  n : List UInt8
  s : Value
  L : List (Value × List UInt8)
def Bk.enc (x : Bk) : List Value := [.string ⟨x.n.toArray⟩, x.s]
theorem bk2 (x : Bk) : x.enc.length = 2 := rfl
def Bk.fz (x : Bk) : Fz := ⟨x.n, x.L.map Prod.snd⟩
structure BkOk (w0 w : World) (O : Own1) (v : Value) (x : Bk) : Prop where
  rd : Rd w 1 x.s x.L.length (x.L.map Prod.fst)
  off : ∀ q, blk x.s = some q → q < w.heap.size ∧ O q = none ∧ blk v ≠ some q
  pg : ∀ y ∈ x.L, RdB w0 y.1 y.2
structure BkL (w0 w : World) (O : Own1) (v : Value) (l : List Bk) : Prop where
  own : OwnG Bk.enc 2 w w0.heap.size v l
  off : ∀ q, blk v = some q → O q = none
  ok : ∀ x ∈ l, BkOk w0 w O v x
section
variable {w0 w w' w1 : World} {O O' : Own1} {v v' : Value} {l l' : List Bk} {x : Bk}
theorem BkL.nil (w0 w : World) (O : Own1) : BkL w0 w O (.slice none 0 0) [] := ⟨OwnG.nil _ _ _ _, fun q e => (by cases e), fun x hx => (by cases hx)⟩
theorem BkOk.ext (h : BkOk w0 w O v x) (g : w.grownBy w' none) : BkOk w0 w' O v x := ⟨h.rd.ext g, fun q e => ⟨Nat.lt_of_lt_of_le (h.off q e).1 g.size, (h.off q e).2⟩, h.pg⟩
theorem BkL.ext (h : BkL w0 w O v l) (g : w.grownBy w' none) : BkL w0 w' O v l := ⟨h.own.ext g, h.off, fun x hx => (h.ok x hx).ext g⟩
theorem BkL.ch (h : BkL w0 w O v l) (c : Ch O w O' w') : BkL w0 w' O' v l :=
  ⟨c.own h.own (by omega) h.off, fun q e => c.free q (Own.blk_lt h.own (by omega) e).2 (h.off q e), fun x hx =>
    ⟨c.rd (h.ok x hx).rd fun k e => ⟨((h.ok x hx).off k e).1, ((h.ok x hx).off k e).2.1⟩, fun q e => ⟨Nat.lt_of_lt_of_le ((h.ok x hx).off q e).1 c.size, c.free q ((h.ok x hx).off q e).1 ((h.ok x hx).off q e).2.1, ((h.ok x hx).off q e).2.2⟩, (h.ok x hx).pg⟩⟩
theorem BkL.loose (h : BkL w0 w O v l) (ho : ∀ i, O i = none → O' i = none) : BkL w0 w O' v l := ⟨h.own, fun q e => ho q (h.off q e), fun x hx => ⟨(h.ok x hx).rd, fun q e => ⟨((h.ok x hx).off q e).1, ho q ((h.ok x hx).off q e).2.1, ((h.ok x hx).off q e).2.2⟩, (h.ok x hx).pg⟩⟩
theorem BkL.form (h : BkL w0 w O v l) : ∃ A c, v = .slice A l.length c := RdG.form (OwnG.rd h.own)
/-- the list grew by one. -/
theorem BkL.app (h : BkL w0 w O v l) (ho : OwnG Bk.enc 2 w' w0.heap.size v' (l ++ [x])) (he : Ext w w' v v') (hf : ∀ i, w.heap.size ≤ i → O i = none) (hx : BkOk w0 w O v x) : BkL w0 w' O v' (l ++ [x]) := by
  obtain ⟨r, g, hr1, ku, hku, hk2⟩ := he
  have hok : ∀ y, BkOk w0 w O v y → BkOk w0 w' O v' y := fun y hy => by
    refine ⟨hy.rd.same fun k hk => g.block k (hy.off k hk).1 fun e => (hy.off k hk).2.2 (hr1 k e.symm), fun q e => ⟨Nat.lt_of_lt_of_le (hy.off q e).1 g.size, (hy.off q e).2.1, fun e2 => ?_⟩, hy.pg⟩
    rw [hku] at e2
    cases e2
    rcases hk2 with h9 | h9
    · exact (hy.off _ e).2.2 h9
    · have := (hy.off _ e).1; omega
  refine ⟨ho, fun q e => ?_, fun y hy => ?_⟩
  · rw [hku] at e
    cases e
    rcases hk2 with h9 | h9
    · exact h.off _ h9
    · exact hf _ h9
  · rcases List.mem_append.1 hy with hy | hy
    · exact hok y (h.ok y hy)
    · rw [List.mem_singleton.1 hy]; exact hok x hx
/-- a part of the list, in new memory. -/
theorem BkL.fresh (h : BkL w0 w O v l) (g : w.grownBy w' none) (ho : OwnG Bk.enc 2 w' w0.heap.size v' l') (hs : ∀ x ∈ l', x ∈ l) (hn : ∀ q, blk v' = some q → w.heap.size ≤ q) (hf : ∀ i, w.heap.size ≤ i → O i = none) : BkL w0 w' O v' l' :=
  ⟨ho, fun q e => hf q (hn q e), fun x hx => by
    have hx2 := h.ok x (hs x hx)
    exact ⟨hx2.rd.ext g, fun q e => ⟨Nat.lt_of_lt_of_le (hx2.off q e).1 g.size, (hx2.off q e).2.1, fun e2 => by have := hn q e2; have := (hx2.off q e).1; omega⟩, hx2.pg⟩⟩
theorem bk_set {l : List Bk} {i : Nat} (hi : i < l.length) {x' : Bk} {u : Value} (he : x'.enc = (l[i].enc).set 1 u) : (l.flatMap Bk.enc).set (i * 2 + 1) u = (l.set i x').flatMap Bk.enc := by
  induction l generalizing i with
  | nil => simp at hi
  | cons y l ih =>
    cases i with
    | zero =>
      have he' : x'.enc = y.enc.set 1 u := he
      rw [List.set_cons_zero, List.flatMap_cons, List.flatMap_cons, he']
      rw [List.set_append_left _ _ (by rw [bk2]; omega)]
    | succ i =>
      rw [List.set_cons_succ, List.flatMap_cons, List.flatMap_cons, ← ih (by simpa using hi) he]
      rw [List.set_append_right _ _ (by rw [bk2]; omega), bk2]
      congr 2
      omega
/-- a file's pages are another slice. -/
theorem BkL.put {A : Option Addr} {c : Nat} (h : BkL w0 w O (.slice A l.length c) l) {k : Nat} (hk : k < l.length) : ∃ g off, A = some ⟨g, off, none⟩ ∧ l.length ≤ c ∧ w0.heap.size ≤ g ∧ g < w.heap.size ∧ O g = none ∧ w.frozen? ⟨g, off + k * 2 + 1, none⟩ = false ∧ (∃ u, w.cell? ⟨g, off + k * 2 + 1, none⟩ = some u) ∧
    ∀ (s : Value) (L : List (Value × List UInt8)), BkOk w0 w O (.slice A l.length c) ⟨l[k].n, s, L⟩ → BkL w0 (w.setCell ⟨g, off + k * 2 + 1, none⟩ s) O (.slice A (l.set k ⟨l[k].n, s, L⟩).length c) (l.set k ⟨l[k].n, s, L⟩) := by
  have ho : Own w w0.heap.size 2 (.slice A l.length c) l.length (l.flatMap Bk.enc) := h.own
  obtain ⟨hl, A', c', g, off, e, hn, hc, hA0, hA, hB, hx, hf⟩ := id ho
  cases e
  obtain rfl := hA (by omega)
  have hb : blk (.slice (some ⟨g, off, none⟩) l.length c) = some g := by show (if c = 0 then none else some g) = some g; rw [if_neg (by omega)]
  have hlt := Own.blk_lt ho (by omega) hb
  have hkc : k * 2 + 1 < c * 2 := by omega
  refine ⟨g, off, rfl, hn, hlt.1, hlt.2, h.off g hb, by rw [Nat.add_assoc]; exact (hf (k * 2 + 1) hkc).2, by rw [Nat.add_assoc]; exact Option.isSome_iff_exists.1 (hf (k * 2 + 1) hkc).1, fun s L hs => ?_⟩
  have hgr := gr_setCell w ⟨g, off + k * 2 + 1, none⟩ s
  have hok : ∀ y, BkOk w0 w O (.slice (some ⟨g, off, none⟩) l.length c) y → BkOk w0 (w.setCell ⟨g, off + k * 2 + 1, none⟩ s) O (.slice (some ⟨g, off, none⟩) (l.set k ⟨l[k].n, s, L⟩).length c) y := fun y hy => by
    rw [List.length_set]
    exact ⟨hy.rd.same fun q hq => hgr.block q (hy.off q hq).1 fun e => (hy.off q hq).2.2 (by cases e; exact hb), fun q e => ⟨Nat.lt_of_lt_of_le (hy.off q e).1 hgr.size, (hy.off q e).2⟩, hy.pg⟩
  refine ⟨?_, fun q e => ?_, fun y hy => ?_⟩
  · unfold OwnG
    have h9 := Own.set (A := some ⟨g, off, none⟩) rfl ho (j := k * 2 + 1) (by omega) s
    rw [bk_set hk (x' := ⟨l[k].n, s, L⟩) rfl, ← Nat.add_assoc] at h9
    rw [List.length_set]
    exact h9
  · rw [List.length_set] at e
    exact h.off q e
  · rcases List.mem_or_eq_of_mem_set hy with hy | hy
    · exact hok y (h.ok y hy)
    · rw [hy]; exact hok _ hs
/-- the place of a file's name. -/
def IxOf (l : List Bk) (n : List UInt8) (z : Int) : Prop := (∃ i : Nat, z = (i : Int) ∧ ∃ h : i < l.length, l[i].n = n) ∨ (z = -1 ∧ ∀ x ∈ l, x.n ≠ n)
set_option maxHeartbeats 1000000 in
theorem find_any {A : Option Addr} {c : Nat} (l : List Bk) (n : List UInt8) (w : World) (h : RdG Bk.enc 2 w (.slice A l.length c) l) (hn : l.length ≤ 1000000) :
    Calls Tryz.prog 14 #[.slice A l.length c, .string ⟨n.toArray⟩] w fun e w' => (∃ z, e = .returned (.int .i64 z) ∧ IxOf l n z) ∧ w.grownBy w' none := by
  have H1 := Lib.hid h
  clear h
  go_enter Tryz.func14, Tryz.ntmps14
  go_wp2_with fail
  go_loopw [5] (fun iv wr => ∃ k : Nat, k ≤ l.length ∧ iv = .int .i64 k ∧ w.grownBy wr none ∧ ∀ j, (hj : j < l.length) → j < k → l[j].n ≠ n) (fun iv _ => l.length - (intOf iv).toNat)
  case atStart => exact ⟨0, Nat.zero_le _, rfl, gr_refl _ _, fun j _ hj => by omega⟩
  case round =>
    obtain ⟨k, hk, rfl, hg, hall⟩ := hrel
    by_cases hlt : k < l.length
    · obtain ⟨ga, offa, hAa, -, hcella⟩ := RdG.at_ bk2 (RdG.ext H1.out hg)
      obtain rfl := hAa (by omega)
      have a0 := hcella k hlt 0 (by omega)
      obtain ⟨⟨nm, s, L⟩, hx⟩ : ∃ x, x = l[k] := ⟨_, rfl⟩
      rw [← hx] at a0
      have c0 : wr.cell? ⟨ga, offa + k * 2, none⟩ = some (.string ⟨nm.toArray⟩) := a0
      have HX : Hid (l[k].n = nm) := by show _ = _; rw [← hx]
      have HALL := Lib.hid hall
      have HG := Lib.hid hg
      clear hcella a0 hx hall hg
      by_cases hnm : nm = n
      · have b1 : (nm == n) = true := by simpa using hnm
        have HI : Hid (IxOf l n (k : Int)) := .inl ⟨k, rfl, hlt, by rw [HX.out]; exact hnm⟩
        clear hnm
        go_wp2_with fail
        go_ret
        exact ⟨⟨_, rfl, HI.out⟩, HG.out⟩
      · have b1 : (nm == n) = false := by simpa using hnm
        have HA2 : Hid (∀ j, (hj : j < l.length) → j < k + 1 → l[j].n ≠ n) := fun j hj hjk => by
          by_cases e : j = k
          · subst e; rw [HX.out]; exact hnm
          · exact HALL.out j hj (by omega)
        clear hnm
        go_wp2_with fail
        go_roundw
        case rel => exact ⟨k + 1, by omega, by go_num, HG.out, HA2.out⟩
        case measure => simp [intOf] <;> omega
    · obtain rfl : k = l.length := by omega
      have HI : Hid (IxOf l n (-1)) := .inr ⟨rfl, fun x hx => by
        obtain ⟨j, hj, e⟩ := List.mem_iff_getElem.1 hx
        rw [← e]; exact hall j hj hj⟩
      have HG := Lib.hid hg
      clear hg hall
      go_wp2_with fail
      go_ret
      exact ⟨⟨_, rfl, HI.out⟩, HG.out⟩
/-- append(l, file{name: n}). -/
theorem wp_app1K {ops : Array Oper} {rest : List Oper} {o : Oper} {a : Act} {Q : Exit → Act → World → Prop} {w : World} (n : List UInt8) (hgd : o.guard = none) (s0 x0 : Operand)
    (ho : o.op = .call { callee := .builtin .append, args := #[s0, x0], argTypes := #[32, 32] }) {v : Value} {l : List Bk} (hs : a.eval s0 = v) (hown : BkL w0 w O v l)
    (g : Nat) (hx : a.eval x0 = .slice (some ⟨g, 0, none⟩) 1 1) (hg : g = w.heap.size) (hn : l.length ≤ 1000000000) (hB : w0.heap.size ≤ w.heap.size) (hf : ∀ i, w.heap.size ≤ i → O i = none)
    (h : ∀ v' w', BkL w0 w' O v' (l ++ [⟨n, .slice none 0 0, []⟩]) → Ext (w.alloc (.cells #[.string ⟨n.toArray⟩, .slice none 0 0] 43)) w' v v' → wpList Tryz.prog ops Q rest (a.put o.dst v') w') :
    wpList Tryz.prog ops Q (o :: rest) a (w.alloc (.cells #[.string ⟨n.toArray⟩, .slice none 0 0] 43)) := by
  subst hg
  refine wpList_plain hgd fun K hK => ?_
  have hg := gr_alloc w (.cells #[.string ⟨n.toArray⟩, .slice none 0 0] 43) none
  obtain ⟨v', w', hrun, h2, h3⟩ := run_appS (P := Tryz.prog) (w.alloc (.cells #[.string ⟨n.toArray⟩, .slice none 0 0] 43)) w0.heap.size 32 o.type 43 _ 2 40 Tryz.underlying32 Tryz.infoBk rfl (by omega) v l.length (l.flatMap Bk.enc) (OwnG.ext hown.own hg) _ 1 [.string ⟨n.toArray⟩, .slice none 0 0]
    (rd_lit w 2 1 1 #[.string ⟨n.toArray⟩, .slice none 0 0] 43 (by simp) (Nat.le_refl _) (by unfold maxLen; omega)) (fun u hu => by simp at hu; rcases hu with rfl | rfl <;> rfl) (by unfold maxLen; omega) (by omega) (by rw [World.size_alloc]; omega)
  unfold Oper.wp execOp
  simp only [ho, resolve, invoke, builtin, Sem.run_bind, Sem.run_pure, Result.andThen_ok, List.map_toArray, List.map_cons, List.map_nil, hs, hx, hrun]
  have h5 : OwnG Bk.enc 2 w' w0.heap.size v' (l ++ [⟨n, .slice none 0 0, []⟩]) := by
    unfold OwnG
    rw [List.length_append, List.flatMap_append]
    exact h2
  have he := ext_of_app h2 (by omega) h3
  exact hK _ _ (h v' w' ((hown.ext hg).app h5 he (fun i hi => hf i (by rw [World.size_alloc] at hi; omega)) ⟨Rd.nil _ _, fun q e => (by cases e), fun y hy => (by cases hy)⟩) he)
end
end Go.Proofs.YtkpmadahfmpeiaaGreat
