/-
  A pool without pins: does, and the disk's names, files and loose sectors.
-/
import Derived.Test.YtkpmadahfmpeiaaGreatQs
import Derived.Test.YtkpmadahfmpeiaaGreatNf
import Derived.Test.YtkpmadahfmpeiaaGreatFls
import Derived.Test.YtkpmadahfmpeiaaGreatQf
import Derived.Test.YtkpmadahfmpeiaaGreatQv
import Derived.Laws.IdiomStrings
import Derived.Lib.BufferRead
namespace Go.Proofs.YtkpmadahfmpeiaaGreat
open Go.RowKit Go.Maps
set_option maxRecDepth 100000
set_option maxHeartbeats 400000

def isPlain (kind : Int) : Bool := kind == 0 || kind == 1 || kind == 2 || kind == 5 || kind == 6 || kind == 7
/-- what is done, and what is told: files, bytes, a number, an error. -/
structure StepR where
  F : List Fz
  b : List UInt8
  n : Int
  e : Nat
def stepF (F : List Fz) (kind : Int) (n : List UInt8) (k : Int) (b : List UInt8) : StepR :=
  if kind = 0 then ⟨(aCreate F n).1, [], 0, (aCreate F n).2⟩
  else if kind = 1 then ⟨(aDrop F n).1, [], 0, (aDrop F n).2⟩
  else if kind = 2 then ⟨F, [], ((aPg F n).length : Int), aErr F n⟩
  else if kind = 5 then ⟨F, (aRead F n k).1, 0, (aRead F n k).2⟩
  else if kind = 6 then ⟨(aWrite F n k b).1, b, 0, (aWrite F n k b).2⟩
  else ⟨F, [], 0, aErr F n⟩
section
variable {w0 w w' w1 : World} {d p m : Nat} {O : Own1} {F : List Fz} {L : List (List UInt8)} {n : List UInt8}
theorem PF.forget (h : PF w0 d p O F L m w) {L' : List (List UInt8)} (hl : ∀ s ∈ L', s ∈ L) : PF w0 d p O F L' m w := by
  obtain ⟨Q, S, h1, h2, h3, h4⟩ := h
  exact ⟨Q, S, h1, h2, h3, fun s hs => h4 s (hl s hs)⟩
theorem PF.more (h : PF w0 d p O F L m w) {m' : Nat} (hm : m ≤ m' ∧ m' ≤ 9500) : PF w0 d p O F L m' w := by
  obtain ⟨Q, S, h1, h2, h3, h4⟩ := h
  exact ⟨Q, S, h1, h2.more ⟨hm.1, by omega⟩, h3.more hm.1, h4⟩
theorem sta_pf (w0 : World) (d p : Nat) (F : List Fz) (L : List (List UInt8)) (m : Nat) : Sta w0 (fun O w => PF w0 d p O F L m w) where
  far := fun ⟨Q, S, h1, h2⟩ g hr => ⟨Q, S, h1.far g hr, h2⟩
  gr := fun ⟨_, _, h1, _⟩ => h1.gr
  fresh := fun ⟨_, _, h1, _⟩ hi => h1.fresh hi
theorem Ab.read_len {q N : Nat} {Q : Pm} {S : Dk} (h : Ab q N Q S F) (n : List UInt8) (k : Int) : (aRead F n k).1.length ≤ 240 := by
  obtain ⟨G, hG, rfl⟩ := h.ex
  unfold aRead
  split
  · simp
  · next h1 =>
    split
    · simp
    · split
      · simp
      · obtain ⟨x, hx, -, hp⟩ := aErr_some hG (by simpa using h1)
        rw [hp]
        show (x.pages.getD k.toNat []).length ≤ 240
        rw [List.getD_eq_getElem?_getD]
        cases hk : x.pages[k.toNat]? with
        | none => simp
        | some b => exact (hG.ok x hx).small b (List.mem_of_getElem? hk)
theorem PF.read_len (h : PF w0 d p O F L m w) (n : List UInt8) (k : Int) : (aRead F n k).1.length ≤ 240 := by obtain ⟨Q, S, -, h2, -⟩ := h; exact h2.read_len n k
theorem blk_ownF {v : Value} {q : Nat} (h : blk v = some q) : v.ownBlock = some q := by
  cases v with
  | slice A n c =>
    cases A with
    | none => cases h
    | some a =>
      have h2 : (if c = 0 then none else some a.block) = some q := h
      split at h2
      · cases h2
      · exact h2
  | _ => cases h
theorem pf_does (h : PF w0 d p O F L m w) (hm : m ≤ 9000) {kind : Int} (hkd : isPlain kind = true) (hn : n.length ≤ 1000000000) {k : Int} (hk : -9223372036854775808 ≤ k ∧ k ≤ 9223372036854775807) {bv : Value} {b : List UInt8} (hb : RdB w bv b) (hbl : b.length ≤ 100000) :
    Calls Tryz.prog 13 #[.pointer (some ⟨p, 0, none⟩), .pointer (some ⟨d, 0, none⟩), .agg #[.int .i64 kind, .string ⟨n.toArray⟩, .int .i64 k, bv]] w (ToldQ (fun O w => PF w0 d p O (stepF F kind n k b).F [] (m + 1) w) O w (stepF F kind n k b).b (stepF F kind n k b).n (stepF F kind n k b).e) := by
  have hS := sta_pf w0 d p F L m
  have hS1 : ∀ F', Sta w0 (fun O w => PF w0 d p O F' [] (m + 1) w) := fun F' => sta_pf w0 d p F' [] (m + 1)
  have hkd' : kind = 0 ∨ kind = 1 ∨ kind = 2 ∨ kind = 5 ∨ kind = 6 ∨ kind = 7 := by
    unfold isPlain at hkd
    simp at hkd
    omega
  by_cases k0 : kind = 0
  · subst k0
    exact qdoes_create hS (hS1 _) h n k bv fun W g => ((h.ext g).create hm hn)
  by_cases k1 : kind = 1
  · subst k1
    exact qdoes_drop hS (hS1 _) h n k bv fun W g => ((h.ext g).drop hm hn)
  by_cases k2 : kind = 2
  · subst k2
    exact qdoes_pages hS (hS1 _) h n k bv fun W g => ((h.ext g).pages hn).mono fun e w' ⟨e1, g1⟩ => ⟨e1, O, (((h.ext g).ext g1).forget (fun s hs => by cases hs)).more ⟨by omega, by omega⟩, Ch.ext g1⟩
  by_cases k5 : kind = 5
  · subst k5
    refine (qdoes_read hS (SF := fun _ O w => PF w0 d p O F [] (m + 1) w) (fun _ => hS1 _) h n k bv (P := fun r er => r = (aRead F n k).1 ∧ er = (aRead F n k).2) (fun r er hr => by rw [hr.1]; have := h.read_len n k; omega) fun W g => ((h.ext g).read hm hn hk).mono fun e w' ⟨vb, e1, ho, O', q1, q2, q3⟩ => ⟨vb, _, _, ⟨rfl, rfl⟩, e1, ho, O', q1, q2, fun q e => q3 q (blk_ownF e)⟩).mono ?_
    rintro e w' ⟨r, er, ⟨rfl, rfl⟩, hq⟩
    exact hq
  by_cases k6 : kind = 6
  · subst k6
    refine (qdoes_write hS (SF := fun _ O w => PF w0 d p O (aWrite F n k b).1 [] (m + 1) w) (fun _ => hS1 _) h n k hb hbl (P := fun er => er = (aWrite F n k b).2) fun W v g hv hvo => ((h.ext g).write hm hn hk hv (fun q e => ⟨(hvo q e).1, h.fresh (hvo q e).2⟩) (by omega)).mono fun e w' ⟨e1, k1⟩ => ⟨_, rfl, e1, k1⟩).mono ?_
    rintro e w' ⟨er, rfl, hq⟩
    exact hq
  have k7 : kind = 7 := by omega
  subst k7
  exact qdoes_flush hS (hS1 _) h n k bv fun W g => ((h.ext g).flush hm hn).mono fun e w' ⟨e1, O', q1, q2⟩ => ⟨e1, O', q1.forget (fun s hs => by cases hs), q2⟩
theorem PF.names (h : PF w0 d p O F L m w) (hm : m ≤ 9500) : Calls Tryz.prog 39 #[.pointer (some ⟨d, 0, none⟩)] w fun e w' => ∃ v, e = .returned v ∧ OwnS w' w.heap.size v (sortN (namesF F)) ∧ w.grownBy w' none := by
  obtain ⟨Q, S, h1, h2, h3, -⟩ := h
  obtain ⟨o, c, g, mb, rfl, k1, k2⟩ := h1.ex
  obtain ⟨G, hG, rfl⟩ := h2.ex
  rw [← names_fz hG]
  exact names_gen sortS k1 (by have := h3.sm.fl; omega)
/-- what Files tells where all is flushed. -/
def FilesF (w : World) (l : List Fl) (F : List Fz) : Prop := l.map Fl.n = sortN (namesF F) ∧ ∀ x ∈ l, x.b = img x.n (aPg F x.n) ∧ RdB w x.s x.b
theorem FilesF.ext {l : List Fl} (h : FilesF w l F) (g : w.grownBy w' none) : FilesF w' l F := ⟨h.1, fun x hx => ⟨(h.2 x hx).1, (h.2 x hx).2.ext g⟩⟩
theorem PF.files (h : PF w0 d p O F L m w) (hm : m ≤ 9500) (hL : ∀ s ∈ namesF F, s ∈ L) : Calls Tryz.prog 31 #[.pointer (some ⟨d, 0, none⟩)] w fun e w' => ∃ v l, e = .returned v ∧ OwnF w' w.heap.size v l ∧ FilesF w' l F ∧ (∀ x ∈ l, ∀ q, blk x.s = some q → w.heap.size ≤ q ∧ q < w'.heap.size) ∧ w.grownBy w' none := by
  obtain ⟨Q, S, h1, h2, h3, h4⟩ := h
  obtain ⟨o, c, g, mb, rfl, k1, k2⟩ := h1.ex
  have hnm : S.fs.map Fi.name = namesF F := by obtain ⟨G, hG, rfl⟩ := h2.ex; exact names_fz hG
  refine (files_gen sortS k1 (by have := h3.sm.fl; omega)).mono ?_
  rintro e w' ⟨v, l, rfl, o1, p1, b1, n1, g1⟩
  rw [hnm] at p1
  refine ⟨v, l, rfl, o1, ⟨p1, fun x hx => ⟨?_, (o1.2.2 x hx).1⟩⟩, n1, g1⟩
  have hmem : x.n ∈ namesF F := (sortN_prm _).mem_iff.1 (by rw [← p1]; exact List.mem_map.2 ⟨x, hx, rfl⟩)
  rw [b1 x hx]
  exact h2.nowOf hmem (h4 _ (hL _ hmem))
theorem PF.held0 (h : PF w0 d p O F L m w) (hL : ∀ s ∈ namesF F, s ∈ L) : Calls Tryz.prog 41 #[.pointer (some ⟨p, 0, none⟩)] w fun e w' => ∃ a b : Nat, e = .returned (.tuple #[.int .i64 a, .int .i64 b, .int .i64 0]) ∧ w.grownBy w' none := by
  obtain ⟨Q, S, h1, h2, h3, h4⟩ := h
  have e := h2.clean fun n hn => h4 n (hL n hn)
  have := h1.held
  rw [e] at this
  exact this.mono fun e w' ⟨e1, g1⟩ => ⟨_, _, e1, g1⟩
theorem PF.loose0 (h : PF w0 d p O F L m w) (hm : m ≤ 9500) (hL : ∀ s ∈ namesF F, s ∈ L) : Calls Tryz.prog 40 #[.pointer (some ⟨d, 0, none⟩)] w fun e w' => ∃ A c, e = .returned (.slice A 0 c) ∧ w.grownBy w' none := by
  obtain ⟨Q, S, h1, h2, h3, h4⟩ := h
  obtain ⟨o, c, g, mb, rfl, k1, k2⟩ := h1.ex
  refine (loose_any sorts_any k1 (looseOk k1 h3.sm.li) (by have := h3.sm.nl; omega)).mono ?_
  rintro e w' ⟨v, l, rfl, o1, -, hls, hok, -, g1⟩
  have hl : l = [] := by
    cases l with
    | nil => rfl
    | cons x l =>
      exfalso
      have := (hls x.name (x.page.toNat : Int) (hok x (by simp))).2 ⟨x.page, by simp, rfl⟩
      rw [h2.tight h3.sm.li (fun n hn => h4 n (hL n hn))] at this
      cases this
  subst hl
  obtain ⟨_, A, c9, _, _, e, _⟩ := o1
  exact ⟨A, c9, by rw [e]; rfl, g1⟩
theorem PF.drop2 (h : PF w0 d p O F L m w) (hm : m ≤ 9000) (hn : n.length ≤ 1000000000) :
    Calls Tryz.prog 42 #[.pointer (some ⟨p, 0, none⟩), .string ⟨n.toArray⟩] w fun e w' => e = .returned (.int .i64 (aDrop F n).2) ∧ PFn w0 d p O (aDrop F n).1 (L.filter fun s => !(s == n)) (m + 1) w w' := by
  obtain ⟨Q, S, h1, h2, h3, h4⟩ := h
  refine (h1.drop hn).mono ?_
  rintro e w' ⟨rfl, O', k1, k2⟩
  obtain ⟨r1, r2⟩ := h2.drop n
  rw [r1]
  exact ⟨rfl, O', ⟨_, _, k1, r2.more ⟨by omega, by omega⟩, h3.drop n, fun s hs => by
    obtain ⟨q1, q2⟩ := List.mem_filter.1 hs
    exact flushed_drop h2 (by simpa using q2) (h4 s q1)⟩, k2⟩
theorem plain_any (kind : Int) (s : ByteArray) (k : Int) (bv : Value) (w : World) : Calls Tryz.prog 12 #[.agg #[.int .i64 kind, .string s, .int .i64 k, bv]] w fun e w' => e = .returned (.bool (isPlain kind)) ∧ w.grownBy w' none := by
  by_cases k0 : kind = 0
  · subst k0
    go_enter Tryz.func12, Tryz.ntmps12
    go_wp2_with fail
    go_ret
    exact ⟨rfl, gr_alloc _ _ none⟩
  by_cases k1 : kind = 1
  · subst k1
    go_enter Tryz.func12, Tryz.ntmps12
    go_wp2_with fail
    go_ret
    exact ⟨rfl, gr_alloc _ _ none⟩
  by_cases k2 : kind = 2
  · subst k2
    go_enter Tryz.func12, Tryz.ntmps12
    go_wp2_with fail
    go_ret
    exact ⟨rfl, gr_alloc _ _ none⟩
  by_cases k5 : kind = 5
  · subst k5
    go_enter Tryz.func12, Tryz.ntmps12
    go_wp2_with fail
    go_ret
    exact ⟨rfl, gr_alloc _ _ none⟩
  by_cases k6 : kind = 6
  · subst k6
    go_enter Tryz.func12, Tryz.ntmps12
    go_wp2_with fail
    go_ret
    exact ⟨rfl, gr_alloc _ _ none⟩
  by_cases k7 : kind = 7
  · subst k7
    go_enter Tryz.func12, Tryz.ntmps12
    go_wp2_with fail
    go_ret
    exact ⟨rfl, gr_alloc _ _ none⟩
  go_enter Tryz.func12, Tryz.ntmps12
  go_wp2_with fail
  go_ret
  exact ⟨rfl, gr_alloc _ _ none⟩
end
end Go.Proofs.YtkpmadahfmpeiaaGreat

/- PoolFlushes: what a Drop leaves of the files, plain. -/
namespace Go.Proofs.YtkpmadahfmpeiaaGreat
set_option maxRecDepth 100000

theorem sortN_filter (p : List UInt8 → Bool) (l : List (List UInt8)) : sortN (l.filter p) = (sortN l).filter p :=
  List.Perm.eq_of_pairwise (le := fun x y => x ≤ y) (fun _ _ _ _ h1 h2 => List.le_antisymm h1 h2) (sortN_up _) ((sortN_up l).filter p) ((sortN_prm _).trans ((sortN_prm l).filter p).symm)
def notB (g : List UInt8) (s : List UInt8) : Bool := !(s == g)
theorem namesF_filter (F : List Fz) (g : List UInt8) : namesF (F.filter fun x => !(x.name == g)) = (namesF F).filter (notB g) := by
  unfold namesF
  rw [List.filter_map]; rfl
theorem fg_filter (F : List Fz) {g n : List UInt8} (h : n ≠ g) : Fg (F.filter fun x => !(x.name == g)) n = Fg F n := by
  unfold Fg
  induction F with
  | nil => rfl
  | cons a l ih =>
    rw [List.filter_cons]
    by_cases ha : a.name = g
    · rw [if_neg (by simp [ha]), ih, List.find?_cons, show (a.name == n) = false from by rw [ha]; simpa using fun e => h e.symm]
    · rw [if_pos (by simpa using ha), List.find?_cons, List.find?_cons]
      cases (a.name == n) with
      | true => rfl
      | false => exact ih
theorem drop_names {F : List Fz} {g : List UInt8} (hok : ∀ n ∈ namesF F, aErr F n = 0) : namesF (aDrop F g).1 = (namesF F).filter (notB g) := by
  unfold aDrop
  by_cases he : aErr F g = 0
  · rw [if_neg (by simpa using he)]
    exact namesF_filter F g
  · rw [if_pos he]
    rw [List.filter_eq_self.2]
    intro n hn
    unfold notB
    have : n ≠ g := fun e => he (e ▸ hok n hn)
    simpa using this
theorem drop_pg {F : List Fz} {g n : List UInt8} (h : n ≠ g) : aPg (aDrop F g).1 n = aPg F n := by
  unfold aDrop
  split
  · rfl
  · show aPg (F.filter fun x => !(x.name == g)) n = aPg F n
    unfold aPg
    rw [fg_filter F h]
theorem drop_gone {F : List Fz} (g : List UInt8) : aErr (aDrop F g).1 g ≠ 0 := by
  unfold aDrop
  by_cases he : aErr F g = 0
  · rw [if_neg (by simpa using he)]
    show aErr (F.filter fun x => !(x.name == g)) g ≠ 0
    unfold aErr
    split
    · simp
    · have : Fg (F.filter fun x => !(x.name == g)) g = none := by
        unfold Fg
        rw [List.find?_eq_none.2]
        · rfl
        · intro x hx
          have := (List.mem_filter.1 hx).2
          simpa using this
      rw [this]; simp
  · rw [if_pos he]; exact he
/-- where an element of a filtered list stands. -/
theorem filter_at {α : Type} (p : α → Bool) : ∀ (l : List α) (i : Nat) (h : i < l.length), p l[i] = true → (l.filter p)[((l.take i).filter p).length]? = some l[i]
  | a :: l, 0, _, hp => by
    have hp' : p a = true := hp
    simp [hp']
  | a :: l, i + 1, h, hp => by
    have ih := filter_at p l i (by simpa using h) hp
    rw [List.take_succ_cons, List.filter_cons, List.filter_cons]
    split
    · rw [List.length_cons, List.getElem?_cons_succ]; exact ih
    · exact ih
theorem filter_step {α : Type} (p : α → Bool) (l : List α) {i : Nat} (h : i < l.length) : ((l.take (i + 1)).filter p).length = ((l.take i).filter p).length + (if p l[i] = true then 1 else 0) := by
  rw [List.take_succ_eq_append_getElem h, List.filter_append, List.length_append]
  congr 1
  rw [List.filter_cons]
  split <;> simp
end Go.Proofs.YtkpmadahfmpeiaaGreat

/- A string of bytes in memory. -/
namespace Go.Proofs.YtkpmadahfmpeiaaGreat
open Go.RowKit Go.Maps
set_option maxRecDepth 100000

theorem str_any {w : World} {A : Option Addr} {c : Nat} {b : List UInt8} (h : RdB w (.slice A b.length c) b) : (convert 33 9 (.slice A b.length c)).run Tryz.prog w = .ok (.string ⟨b.toArray⟩) w := by
  obtain ⟨g, off, hA, hcap, hmx, hcells⟩ := RdB.at_ h
  cases A with
  | none =>
    have h0 : b.length = 0 := by
      rcases Nat.eq_zero_or_pos b.length with h9 | h9
      · exact h9
      · exact absurd (hA h9) (by simp)
    obtain rfl := List.eq_nil_of_length_eq_zero h0
    exact Lib.run_convert_nil_bytes w _ _ _ c Tryz.underlying33 Tryz.underlying5 Tryz.underlying9
  | some a =>
    refine run_convert_bytes_back w _ _ _ a c b Tryz.underlying33 Tryz.underlying5 Tryz.underlying9 fun j hj => ?_
    have := hA (by omega)
    cases this
    rw [Addr.add_lit]
    exact hcells j hj
end Go.Proofs.YtkpmadahfmpeiaaGreat
