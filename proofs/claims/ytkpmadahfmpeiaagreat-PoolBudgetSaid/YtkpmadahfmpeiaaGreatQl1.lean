/-
  A list of what is done with a pool, in memory; vast of law10.
-/
import Derived.Test.YtkpmadahfmpeiaaGreatQo
import Derived.Test.YtkpmadahfmpeiaaGreatInt
import Derived.Test.YtkpmadahfmpeiaaGreatQs
import Derived.Test.YtkpmadahfmpeiaaGreatNf
import Derived.Test.YtkpmadahfmpeiaaGreatFls
import Derived.Test.YtkpmadahfmpeiaaGreatQf
import Derived.Laws.IdiomStrings
import Derived.Lib.BufferRead
namespace Go.Proofs.YtkpmadahfmpeiaaGreat
open Go.RowKit Go.Maps
set_option maxRecDepth 100000
set_option maxHeartbeats 400000

def opQ (l : List OpQ) : List Value := l.flatMap OpQ.cells
def RdQ (w : World) (v : Value) (l : List OpQ) : Prop := Rd w 4 v l.length (opQ l) ∧ ∀ o ∈ l, OpQk w o
theorem opQ_at (l : List OpQ) {k j : Nat} (hk : k < l.length) (hj : j < 4) : (opQ l)[k * 4 + j]? = (l[k].cells)[j]? := by
  induction l generalizing k with
  | nil => simp at hk
  | cons r l ih =>
    have hl : r.cells.length = 4 := rfl
    unfold opQ at *
    rw [List.flatMap_cons]
    cases k with
    | zero =>
      rw [List.getElem?_append_left (by omega)]
      simp
    | succ k =>
      rw [List.getElem?_append_right (by omega), hl, show (k + 1) * 4 + j - 4 = k * 4 + j from by omega]
      exact ih (by simpa using hk)
theorem RdQ.ext {w w' : World} {v : Value} {l : List OpQ} (h : RdQ w v l) (g : w.grownBy w' none) : RdQ w' v l := ⟨Rd.ext h.1 g, fun o ho => (h.2 o ho).ext g⟩
theorem RdQ.form {w : World} {v : Value} {l : List OpQ} (h : RdQ w v l) : ∃ A c, v = .slice A l.length c := by
  obtain ⟨⟨_, A, c, _, _, e, _⟩, _⟩ := h; exact ⟨A, c, e⟩
theorem RdQ.at_ {w : World} {A : Option Addr} {c : Nat} {l : List OpQ} (h : RdQ w (.slice A l.length c) l) : ∃ g off, (0 < l.length → A = some ⟨g, off, none⟩) ∧ l.length ≤ c ∧ c ≤ maxLen ∧ ∀ k (hk : k < l.length) j, j < 4 → w.cell? ⟨g, off + k * 4 + j, none⟩ = (l[k].cells)[j]? := by
  obtain ⟨⟨hl, A', c', g, off, e, hn, hc, hA0, hA, hx⟩, _⟩ := h
  cases e
  refine ⟨g, off, fun h0 => hA (by omega), hn, hc, fun k hk j hj => ?_⟩
  rw [Nat.add_assoc, hx _ (by omega), opQ_at l hk hj]
def opQW (o : OpQ) : Nat := min o.b.length 131072 + min o.name.length 131072
def sumQ (l : List OpQ) : Nat := (l.map opQW).sum
def vastQ (f : Int) (l : List OpQ) : Bool := (decide (150 < l.length) || decide (64 < f)) || decide (65536 < sumQ l)
theorem sumQ_take {l : List OpQ} {k : Nat} (hk : k < l.length) : sumQ (l.take (k + 1)) = sumQ (l.take k) + opQW l[k] := by
  unfold sumQ
  rw [List.take_succ_eq_append_getElem hk, List.map_append, List.sum_append]
  simp
theorem sumQ_mono (l : List OpQ) (k : Nat) : sumQ (l.take k) ≤ sumQ l := by
  have e : l = l.take k ++ l.drop k := (List.take_append_drop k l).symm
  conv => rhs; rw [e]
  unfold sumQ
  rw [List.map_append, List.sum_append]
  omega
theorem vastQ_no {f : Int} {l : List OpQ} (h : vastQ f l = false) : l.length ≤ 150 ∧ f ≤ 64 ∧ sumQ l ≤ 65536 := by
  unfold vastQ at h
  simp at h
  omega
theorem opQW_le {l : List OpQ} (o : OpQ) (ho : o ∈ l) : opQW o ≤ sumQ l := by
  obtain ⟨k, hk, rfl⟩ := List.getElem_of_mem ho
  have := sumQ_take hk
  have := sumQ_mono l (k + 1)
  omega
theorem opQW_small {o : OpQ} (h : opQW o ≤ 65536) : o.b.length ≤ 65536 ∧ o.name.length ≤ 65536 := by
  unfold opQW at h
  omega
set_option maxHeartbeats 2000000 in
theorem vastQ_any (f : Int) (v : Value) (l : List OpQ) (w : World) (h : RdQ w v l) :
    Calls Tryz.prog 8 #[.int .i64 f, v] w fun e w' => e = .returned (.bool (vastQ f l)) ∧ w.grownBy w' none := by
  obtain ⟨A, c, rfl⟩ := h.form
  obtain ⟨g, off, hA, hcap, hmx, hcells⟩ := h.at_
  have HA := Lib.hid hA
  have HC := Lib.hid hcells
  have HOK := Lib.hid h.2
  clear hA hcells h
  by_cases hbig : 150 < l.length
  · have hv : Hid (vastQ f l = true) := by show _ = _; unfold vastQ; simp [hbig]
    go_enter Tryz.func8, Tryz.ntmps8
    go_wp2
    go_ret
    exact ⟨by rw [hv.out]; rfl, gr_refl _ _⟩
  by_cases hfr : 64 < f
  · have hv : Hid (vastQ f l = true) := by show _ = _; unfold vastQ; simp [hfr]
    go_enter Tryz.func8, Tryz.ntmps8
    go_wp2
    go_ret
    exact ⟨by rw [hv.out]; rfl, gr_refl _ _⟩
  · have hl : l.length ≤ 150 := by omega
    have hf2 : f ≤ 64 := by omega
    have HF2 := Lib.hid hf2
    clear hbig
    go_enter Tryz.func8, Tryz.ntmps8
    go_wp2
    go_loopw [5, 6] (fun s i wr => ∃ k : Nat, k ≤ l.length ∧ i = .int .i64 k ∧ (∃ m : Nat, s = .int .i64 m ∧ Hid (m = sumQ (l.take k)) ∧ m ≤ 65536) ∧ DrewS w wr) (fun _ i _ => l.length - (intOf i).toNat)
    case atStart => exact ⟨0, by omega, rfl, ⟨0, rfl, rfl, by omega⟩, 0, rfl⟩
    case round =>
      obtain ⟨k, hk, rfl, ⟨m, rfl, hm, hm2⟩, q0, hq0⟩ := hrel
      have HQ0 := Lib.hid hq0
      clear hq0
      by_cases hlt : k < l.length
      · obtain rfl := HA.out (by omega)
        have hc := HC.out k hlt
        have hok := HOK.out l[k] (List.getElem_mem hlt)
        have hsum := sumQ_take hlt
        rcases hx : l[k] with ⟨kind, nm, i1, bv, b⟩
        rw [hx] at hc hok hsum
        obtain ⟨Ab, cb, rfl⟩ : ∃ Ab cb, bv = .slice Ab b.length cb := hok.b.form
        have c1 : wr.cell? ⟨g, off + k * 4 + 1, none⟩ = some (.string ⟨nm.toArray⟩) := by rw [HQ0.out]; exact hc 1 (by omega)
        have c3 : wr.cell? ⟨g, off + k * 4 + 3, none⟩ = some (.slice Ab b.length cb) := by rw [HQ0.out]; exact hc 3 (by omega)
        have hbr : RdB w (.slice Ab b.length cb) b := hok.b
        have hbc : b.length ≤ maxLen := by obtain ⟨_, _, _, _, _, e, h1, h2, _⟩ := hbr; cases e; omega
        have hnm : nm.length ≤ maxLen := hok.name
        obtain ⟨x1, e1⟩ : ∃ x1 : Nat, x1 = min b.length 131072 := ⟨_, rfl⟩
        obtain ⟨x2, e2⟩ : ∃ x2 : Nat, x2 = min nm.length 131072 := ⟨_, rfl⟩
        have m1 : min (b.length : Int) 131072 = (x1 : Int) := by omega
        have m2 : min (nm.length : Int) 131072 = (x2 : Int) := by omega
        have b1 : x1 ≤ 131072 ∧ x2 ≤ 131072 := by omega
        have hopw : opQW ⟨kind, nm, i1, .slice Ab b.length cb, b⟩ = x1 + x2 := by unfold opQW; dsimp only; omega
        rw [hopw] at hsum
        obtain ⟨t, ht⟩ : ∃ t : Nat, t = m + (x1 + x2) := ⟨_, rfl⟩
        have HT : Hid (t = sumQ (l.take (k + 1))) := by show _ = _; rw [hsum, ht, hm.out]
        have htb : t ≤ 600000 := by omega
        have s1 : IntKind.i64.wrap ((m : Int) + (x1 : Int)) = (m : Int) + (x1 : Int) := by rw [IntWalk.i64_in _ (by omega)]
        have s2 : IntKind.i64.wrap ((m : Int) + (x1 : Int) + (x2 : Int)) = (t : Int) := by rw [IntWalk.i64_in _ (by omega)]; omega
        have ht2 : (m : Int) + (x1 : Int) + (x2 : Int) = (t : Int) := by omega
        have hck1 : (0 : Int) ≤ (k : Int) := by omega
        have hck2 : (k : Int) < (l.length : Int) := by omega
        have htv : 65536 < t → vastQ f l = true := fun h9 => by
          unfold vastQ
          have := sumQ_mono l (k + 1)
          rw [← HT.out] at this
          simp; omega
        have HTV := Lib.hid htv
        clear hbr hc hok hsum hx e1 e2 hopw ht hm htv
        go_wp2_with fail
        go_quiet (fail)
        by_cases hov : 65536 < t
        · have hv := Lib.hid (HTV.out hov)
          go_wp2
          go_ret
          exact ⟨by rw [hv.out]; rfl, by rw [HQ0.out, World.drewN_drewN]; exact gr_drewN _ _ _⟩
        · have ht3 : t ≤ 65536 := by omega
          go_wp2
          go_roundw
          case rel => exact ⟨k + 1, by omega, by go_num, ⟨t, rfl, HT.out, ht3⟩, q0 + nq, by rw [HQ0.out, World.drewN_drewN]⟩
          case measure => simp [intOf]; omega
      · obtain rfl : k = l.length := by omega
        have hv : Hid (vastQ f l = false) := by
          show _ = _
          have := hm.out
          rw [List.take_length] at this
          unfold vastQ
          simp; omega
        go_wp2
        go_ret
        exact ⟨by rw [hv.out]; rfl, by rw [HQ0.out]; exact gr_drewN _ _ _⟩
end Go.Proofs.YtkpmadahfmpeiaaGreat

/- A pool without pins: does, and the disk's names, files and loose sectors. -/
namespace Go.Proofs.YtkpmadahfmpeiaaGreat
open Go.RowKit Go.Maps
set_option maxRecDepth 100000
set_option maxHeartbeats 400000

def isPlain (kind : Int) : Bool := kind == 0 || kind == 1 || kind == 2 || kind == 5 || kind == 6 || kind == 7
/-- what is done, and what is told: files, bytes, a number, an error. -/
structure StepR where
  F : List Fz
  b : List UInt8
  n : Int
  e : Nat
def stepF (F : List Fz) (kind : Int) (n : List UInt8) (k : Int) (b : List UInt8) : StepR :=
  if kind = 0 then ⟨(aCreate F n).1, [], 0, (aCreate F n).2⟩
  else if kind = 1 then ⟨(aDrop F n).1, [], 0, (aDrop F n).2⟩
  else if kind = 2 then ⟨F, [], ((aPg F n).length : Int), aErr F n⟩
  else if kind = 5 then ⟨F, (aRead F n k).1, 0, (aRead F n k).2⟩
  else if kind = 6 then ⟨(aWrite F n k b).1, b, 0, (aWrite F n k b).2⟩
  else ⟨F, [], 0, aErr F n⟩
section
variable {w0 w w' w1 : World} {d p m : Nat} {O : Own1} {F : List Fz} {L : List (List UInt8)} {n : List UInt8}
theorem PF.forget (h : PF w0 d p O F L m w) {L' : List (List UInt8)} (hl : ∀ s ∈ L', s ∈ L) : PF w0 d p O F L' m w := by
  obtain ⟨Q, S, h1, h2, h3, h4⟩ := h
  exact ⟨Q, S, h1, h2, h3, fun s hs => h4 s (hl s hs)⟩
theorem PF.more (h : PF w0 d p O F L m w) {m' : Nat} (hm : m ≤ m' ∧ m' ≤ 9500) : PF w0 d p O F L m' w := by
  obtain ⟨Q, S, h1, h2, h3, h4⟩ := h
  exact ⟨Q, S, h1, h2.more ⟨hm.1, by omega⟩, h3.more hm.1, h4⟩
theorem sta_pf (w0 : World) (d p : Nat) (F : List Fz) (L : List (List UInt8)) (m : Nat) : Sta w0 (fun O w => PF w0 d p O F L m w) where
  far := fun ⟨Q, S, h1, h2⟩ g hr => ⟨Q, S, h1.far g hr, h2⟩
  gr := fun ⟨_, _, h1, _⟩ => h1.gr
  fresh := fun ⟨_, _, h1, _⟩ hi => h1.fresh hi
theorem Ab.read_len {q N : Nat} {Q : Pm} {S : Dk} (h : Ab q N Q S F) (n : List UInt8) (k : Int) : (aRead F n k).1.length ≤ 240 := by
  obtain ⟨G, hG, rfl⟩ := h.ex
  unfold aRead
  split
  · simp
  · next h1 =>
    split
    · simp
    · split
      · simp
      · obtain ⟨x, hx, -, hp⟩ := aErr_some hG (by simpa using h1)
        rw [hp]
        show (x.pages.getD k.toNat []).length ≤ 240
        rw [List.getD_eq_getElem?_getD]
        cases hk : x.pages[k.toNat]? with
        | none => simp
        | some b => exact (hG.ok x hx).small b (List.mem_of_getElem? hk)
theorem PF.read_len (h : PF w0 d p O F L m w) (n : List UInt8) (k : Int) : (aRead F n k).1.length ≤ 240 := by obtain ⟨Q, S, -, h2, -⟩ := h; exact h2.read_len n k
theorem blk_ownF {v : Value} {q : Nat} (h : blk v = some q) : v.ownBlock = some q := by
  cases v with
  | slice A n c =>
    cases A with
    | none => cases h
    | some a =>
      have h2 : (if c = 0 then none else some a.block) = some q := h
      split at h2
      · cases h2
      · exact h2
  | _ => cases h
theorem pf_does (h : PF w0 d p O F L m w) (hm : m ≤ 9000) {kind : Int} (hkd : isPlain kind = true) (hn : n.length ≤ 1000000000) {k : Int} (hk : -9223372036854775808 ≤ k ∧ k ≤ 9223372036854775807) {bv : Value} {b : List UInt8} (hb : RdB w bv b) (hbl : b.length ≤ 100000) :
    Calls Tryz.prog 13 #[.pointer (some ⟨p, 0, none⟩), .pointer (some ⟨d, 0, none⟩), .agg #[.int .i64 kind, .string ⟨n.toArray⟩, .int .i64 k, bv]] w (ToldQ (fun O w => PF w0 d p O (stepF F kind n k b).F [] (m + 1) w) O w (stepF F kind n k b).b (stepF F kind n k b).n (stepF F kind n k b).e) := by
  have hS := sta_pf w0 d p F L m
  have hS1 : ∀ F', Sta w0 (fun O w => PF w0 d p O F' [] (m + 1) w) := fun F' => sta_pf w0 d p F' [] (m + 1)
  have hkd' : kind = 0 ∨ kind = 1 ∨ kind = 2 ∨ kind = 5 ∨ kind = 6 ∨ kind = 7 := by
    unfold isPlain at hkd
    simp at hkd
    omega
  by_cases k0 : kind = 0
  · subst k0
    exact qdoes_create hS (hS1 _) h n k bv fun W g => ((h.ext g).create hm hn)
  by_cases k1 : kind = 1
  · subst k1
    exact qdoes_drop hS (hS1 _) h n k bv fun W g => ((h.ext g).drop hm hn)
  by_cases k2 : kind = 2
  · subst k2
    exact qdoes_pages hS (hS1 _) h n k bv fun W g => ((h.ext g).pages hn).mono fun e w' ⟨e1, g1⟩ => ⟨e1, O, (((h.ext g).ext g1).forget (fun s hs => by cases hs)).more ⟨by omega, by omega⟩, Ch.ext g1⟩
  by_cases k5 : kind = 5
  · subst k5
    refine (qdoes_read hS (SF := fun _ O w => PF w0 d p O F [] (m + 1) w) (fun _ => hS1 _) h n k bv (P := fun r er => r = (aRead F n k).1 ∧ er = (aRead F n k).2) (fun r er hr => by rw [hr.1]; have := h.read_len n k; omega) fun W g => ((h.ext g).read hm hn hk).mono fun e w' ⟨vb, e1, ho, O', q1, q2, q3⟩ => ⟨vb, _, _, ⟨rfl, rfl⟩, e1, ho, O', q1, q2, fun q e => q3 q (blk_ownF e)⟩).mono ?_
    rintro e w' ⟨r, er, ⟨rfl, rfl⟩, hq⟩
    exact hq
  by_cases k6 : kind = 6
  · subst k6
    refine (qdoes_write hS (SF := fun _ O w => PF w0 d p O (aWrite F n k b).1 [] (m + 1) w) (fun _ => hS1 _) h n k hb hbl (P := fun er => er = (aWrite F n k b).2) fun W v g hv hvo => ((h.ext g).write hm hn hk hv (fun q e => ⟨(hvo q e).1, h.fresh (hvo q e).2⟩) (by omega)).mono fun e w' ⟨e1, k1⟩ => ⟨_, rfl, e1, k1⟩).mono ?_
    rintro e w' ⟨er, rfl, hq⟩
    exact hq
  have k7 : kind = 7 := by omega
  subst k7
  exact qdoes_flush hS (hS1 _) h n k bv fun W g => ((h.ext g).flush hm hn).mono fun e w' ⟨e1, O', q1, q2⟩ => ⟨e1, O', q1.forget (fun s hs => by cases hs), q2⟩
theorem PF.names (h : PF w0 d p O F L m w) (hm : m ≤ 9500) : Calls Tryz.prog 39 #[.pointer (some ⟨d, 0, none⟩)] w fun e w' => ∃ v, e = .returned v ∧ OwnS w' w.heap.size v (sortN (namesF F)) ∧ w.grownBy w' none := by
  obtain ⟨Q, S, h1, h2, h3, -⟩ := h
  obtain ⟨o, c, g, mb, rfl, k1, k2⟩ := h1.ex
  obtain ⟨G, hG, rfl⟩ := h2.ex
  rw [← names_fz hG]
  exact names_gen sortS k1 (by have := h3.sm.fl; omega)
/-- what Files tells where all is flushed. -/
def FilesF (w : World) (l : List Fl) (F : List Fz) : Prop := l.map Fl.n = sortN (namesF F) ∧ ∀ x ∈ l, x.b = img x.n (aPg F x.n) ∧ RdB w x.s x.b
theorem FilesF.ext {l : List Fl} (h : FilesF w l F) (g : w.grownBy w' none) : FilesF w' l F := ⟨h.1, fun x hx => ⟨(h.2 x hx).1, (h.2 x hx).2.ext g⟩⟩
theorem PF.files (h : PF w0 d p O F L m w) (hm : m ≤ 9500) (hL : ∀ s ∈ namesF F, s ∈ L) : Calls Tryz.prog 31 #[.pointer (some ⟨d, 0, none⟩)] w fun e w' => ∃ v l, e = .returned v ∧ OwnF w' w.heap.size v l ∧ FilesF w' l F ∧ (∀ x ∈ l, ∀ q, blk x.s = some q → w.heap.size ≤ q ∧ q < w'.heap.size) ∧ w.grownBy w' none := by
  obtain ⟨Q, S, h1, h2, h3, h4⟩ := h
  obtain ⟨o, c, g, mb, rfl, k1, k2⟩ := h1.ex
  have hnm : S.fs.map Fi.name = namesF F := by obtain ⟨G, hG, rfl⟩ := h2.ex; exact names_fz hG
  refine (files_gen sortS k1 (by have := h3.sm.fl; omega)).mono ?_
  rintro e w' ⟨v, l, rfl, o1, p1, b1, n1, g1⟩
  rw [hnm] at p1
  refine ⟨v, l, rfl, o1, ⟨p1, fun x hx => ⟨?_, (o1.2.2 x hx).1⟩⟩, n1, g1⟩
  have hmem : x.n ∈ namesF F := (sortN_prm _).mem_iff.1 (by rw [← p1]; exact List.mem_map.2 ⟨x, hx, rfl⟩)
  rw [b1 x hx]
  exact h2.nowOf hmem (h4 _ (hL _ hmem))
theorem PF.held0 (h : PF w0 d p O F L m w) (hL : ∀ s ∈ namesF F, s ∈ L) : Calls Tryz.prog 41 #[.pointer (some ⟨p, 0, none⟩)] w fun e w' => ∃ a b : Nat, e = .returned (.tuple #[.int .i64 a, .int .i64 b, .int .i64 0]) ∧ w.grownBy w' none := by
  obtain ⟨Q, S, h1, h2, h3, h4⟩ := h
  have e := h2.clean fun n hn => h4 n (hL n hn)
  have := h1.held
  rw [e] at this
  exact this.mono fun e w' ⟨e1, g1⟩ => ⟨_, _, e1, g1⟩
theorem PF.loose0 (h : PF w0 d p O F L m w) (hm : m ≤ 9500) (hL : ∀ s ∈ namesF F, s ∈ L) : Calls Tryz.prog 40 #[.pointer (some ⟨d, 0, none⟩)] w fun e w' => ∃ A c, e = .returned (.slice A 0 c) ∧ w.grownBy w' none := by
  obtain ⟨Q, S, h1, h2, h3, h4⟩ := h
  obtain ⟨o, c, g, mb, rfl, k1, k2⟩ := h1.ex
  refine (loose_any sorts_any k1 (looseOk k1 h3.sm.li) (by have := h3.sm.nl; omega)).mono ?_
  rintro e w' ⟨v, l, rfl, o1, -, hls, hok, -, g1⟩
  have hl : l = [] := by
    cases l with
    | nil => rfl
    | cons x l =>
      exfalso
      have := (hls x.name (x.page.toNat : Int) (hok x (by simp))).2 ⟨x.page, by simp, rfl⟩
      rw [h2.tight h3.sm.li (fun n hn => h4 n (hL n hn))] at this
      cases this
  subst hl
  obtain ⟨_, A, c9, _, _, e, _⟩ := o1
  exact ⟨A, c9, by rw [e]; rfl, g1⟩
theorem PF.drop2 (h : PF w0 d p O F L m w) (hm : m ≤ 9000) (hn : n.length ≤ 1000000000) :
    Calls Tryz.prog 42 #[.pointer (some ⟨p, 0, none⟩), .string ⟨n.toArray⟩] w fun e w' => e = .returned (.int .i64 (aDrop F n).2) ∧ PFn w0 d p O (aDrop F n).1 (L.filter fun s => !(s == n)) (m + 1) w w' := by
  obtain ⟨Q, S, h1, h2, h3, h4⟩ := h
  refine (h1.drop hn).mono ?_
  rintro e w' ⟨rfl, O', k1, k2⟩
  obtain ⟨r1, r2⟩ := h2.drop n
  rw [r1]
  exact ⟨rfl, O', ⟨_, _, k1, r2.more ⟨by omega, by omega⟩, h3.drop n, fun s hs => by
    obtain ⟨q1, q2⟩ := List.mem_filter.1 hs
    exact flushed_drop h2 (by simpa using q2) (h4 s q1)⟩, k2⟩
theorem plain_any (kind : Int) (s : ByteArray) (k : Int) (bv : Value) (w : World) : Calls Tryz.prog 12 #[.agg #[.int .i64 kind, .string s, .int .i64 k, bv]] w fun e w' => e = .returned (.bool (isPlain kind)) ∧ w.grownBy w' none := by
  by_cases k0 : kind = 0
  · subst k0
    go_enter Tryz.func12, Tryz.ntmps12
    go_wp2_with fail
    go_ret
    exact ⟨rfl, gr_alloc _ _ none⟩
  by_cases k1 : kind = 1
  · subst k1
    go_enter Tryz.func12, Tryz.ntmps12
    go_wp2_with fail
    go_ret
    exact ⟨rfl, gr_alloc _ _ none⟩
  by_cases k2 : kind = 2
  · subst k2
    go_enter Tryz.func12, Tryz.ntmps12
    go_wp2_with fail
    go_ret
    exact ⟨rfl, gr_alloc _ _ none⟩
  by_cases k5 : kind = 5
  · subst k5
    go_enter Tryz.func12, Tryz.ntmps12
    go_wp2_with fail
    go_ret
    exact ⟨rfl, gr_alloc _ _ none⟩
  by_cases k6 : kind = 6
  · subst k6
    go_enter Tryz.func12, Tryz.ntmps12
    go_wp2_with fail
    go_ret
    exact ⟨rfl, gr_alloc _ _ none⟩
  by_cases k7 : kind = 7
  · subst k7
    go_enter Tryz.func12, Tryz.ntmps12
    go_wp2_with fail
    go_ret
    exact ⟨rfl, gr_alloc _ _ none⟩
  go_enter Tryz.func12, Tryz.ntmps12
  go_wp2_with fail
  go_ret
  exact ⟨rfl, gr_alloc _ _ none⟩
end
end Go.Proofs.YtkpmadahfmpeiaaGreat

/- Two pools, each over a disk of its own, side by side. -/
namespace Go.Proofs.YtkpmadahfmpeiaaGreat
open Go.RowKit Go.Maps
set_option maxRecDepth 100000
set_option maxHeartbeats 400000

/-- nothing is owned twice. -/
def Dsj (O1 O2 : Own1) : Prop := ∀ i, O1 i = none ∨ O2 i = none
section
variable {w0 w w' w1 : World} {d p m B : Nat} {o O O1 O1' O2 : Own1} {S : Dk} {F : List Fz} {L : List (List UInt8)}
theorem Dsj.symm (h : Dsj O1 O2) : Dsj O2 O1 := fun i => (h i).symm
theorem Dsj.off (h : Dsj O1 O2) (i : Nat) (hi : O1 i ≠ none) : O2 i = none := (h i).resolve_left hi
theorem Dsj.mk (h : ∀ i, O1 i ≠ none → O2 i = none) : Dsj O1 O2 := fun i => by
  cases e : O1 i with
  | none => exact .inl rfl
  | some t => exact .inr (h i (by rw [e]; simp))
theorem DI.lowB {c : Con} (h : DI w B o d S c) {B' : Nat} (hB : B' ≤ B) : DI w B' o d S c :=
  { h with
    file := fun f hf => ⟨(h.file f hf).box, (h.file f hf).now.mono hB, (h.file f hf).lasts.mono hB, (h.file f hf).small⟩
    inb := fun i hi => ⟨Nat.le_trans hB (h.inb i hi).1, (h.inb i hi).2⟩ }
theorem DA.low (h : DA w1 d o S w) (g : w0.grownBy w1 none) : DA w0 d o S w := by
  obtain ⟨⟨c, h1⟩, h2⟩ := h
  exact ⟨⟨c, h1.lowB g.size⟩, gr_none g h2⟩
theorem DA.beside (h : DA w0 d o S w) (hc : Ch O1 w O1' w') (hd : Dsj o O1) (hg : w0.grownBy w' none) : DA w0 d o S w' ∧ Dsj o O1' := by
  obtain ⟨⟨c, h1⟩, h2⟩ := h
  exact ⟨⟨⟨c, h1.keep hc.size fun i hi => hc.block i (h1.inb i hi).2 (hd.off i hi)⟩, hg⟩, Dsj.mk fun i hi => hc.free i (h1.inb i hi).2 (hd.off i hi)⟩
theorem PF.beside (h : PF w0 d p O F L m w) (hc : Ch O1 w O1' w') (hd : Dsj O O1) (hg : w0.grownBy w' none) : PF w0 d p O F L m w' ∧ Dsj O O1' := by
  obtain ⟨Q, S, h1, h2⟩ := h
  obtain ⟨k1, k2⟩ := h1.keep hc hd.off hg
  exact ⟨⟨Q, S, k1, h2⟩, Dsj.mk k2⟩
/-- two pools of the same files. -/
structure P2 (w0 : World) (d p f q : Nat) (O1 O2 : Own1) (F : List Fz) (L1 L2 : List (List UInt8)) (m : Nat) (w : World) : Prop where
  one : PF w0 d p O1 F L1 m w
  two : PF w0 f q O2 F L2 m w
  apart : Dsj O1 O2
theorem P2.ext {f q : Nat} {L2 : List (List UInt8)} (h : P2 w0 d p f q O1 O2 F L L2 m w) (g : w.grownBy w' none) : P2 w0 d p f q O1 O2 F L L2 m w' := ⟨h.one.ext g, h.two.ext g, h.apart⟩
end
end Go.Proofs.YtkpmadahfmpeiaaGreat

/- sameTold of law10 and SameFiles of law06 where both are alike. -/
namespace Go.Proofs.YtkpmadahfmpeiaaGreat
open Go.RowKit Go.Maps
set_option maxRecDepth 100000
set_option maxHeartbeats 400000

theorem sameTold_any {A A' : Option Addr} {c c' : Nat} (b : List UInt8) (n : Int) (er : Nat) (w : World) (h : RdB w (.slice A b.length c) b) (h' : RdB w (.slice A' b.length c') b) :
    Calls Tryz.prog 38 #[.agg #[.slice A b.length c, .int .i64 n, .int .i64 er], .agg #[.slice A' b.length c', .int .i64 n, .int .i64 er]] w fun e w' => e = .returned (.bool true) ∧ w.grownBy w' none := by
  have HE := Lib.hid (fun wx (g : w.grownBy wx none) => eqBytes_any _ _ b b wx (h.ext g) (h'.ext g))
  clear h h'
  go_enter Tryz.func38, Tryz.ntmps38
  go_wp2_with fail
  refine (HE.out _ (gr_none (gr_alloc _ _ none) (gr_alloc _ _ none))).mono ?_
  rintro e w2 ⟨rfl, rfl⟩
  rw [beq_self_eq_true]
  go_wp2_with fail
  go_ret
  exact ⟨rfl, gr_none (gr_alloc _ _ none) (gr_alloc _ _ none)⟩
/-- the files that were told are the same. -/
def Alike (w : World) (l l' : List Fl) : Prop := l.length = l'.length ∧ ∀ i (h : i < l.length) (h' : i < l'.length), l[i].n = l'[i].n ∧ l[i].b = l'[i].b ∧ l[i].b.length ≤ 1000000000 ∧ RdB w l[i].s l[i].b ∧ RdB w l'[i].s l'[i].b
set_option maxHeartbeats 2000000 in
theorem sameFiles_any {A A' : Option Addr} {c c' : Nat} (l l' : List Fl) (w : World) (h : RdG Fl.enc 2 w (.slice A l.length c) l) (h' : RdG Fl.enc 2 w (.slice A' l'.length c') l') (ha : Alike w l l') (hn : l.length ≤ 1000000) :
    Calls Tryz.prog 30 #[.slice A l.length c, .slice A' l'.length c'] w fun e w' => e = .returned (.bool true) ∧ w.grownBy w' none := by
  obtain ⟨hlen, hal⟩ := ha
  rw [← hlen] at h' ⊢
  have HAL := Lib.hid hal
  have HL := Lib.hid hlen
  have H1 := Lib.hid h
  have H2 := Lib.hid h'
  clear h h' hal hlen
  go_enter Tryz.func30, Tryz.ntmps30
  go_wp2_with fail
  go_loopw [5] (fun iv wr => ∃ k : Nat, k ≤ l.length ∧ iv = .int .i64 k ∧ w.grownBy wr none) (fun iv _ => l.length - (intOf iv).toNat)
  case atStart => exact ⟨0, Nat.zero_le _, rfl, gr_refl _ _⟩
  case round =>
    obtain ⟨k, hk, rfl, hg⟩ := hrel
    by_cases hlt : k < l.length
    · have hlt' : k < l'.length := by rw [← HL.out]; exact hlt
      obtain ⟨ga, offa, hAa, -, hcella⟩ := RdG.at_ fl2 (RdG.ext H1.out hg)
      obtain rfl := hAa (by omega)
      have h2 := H2.out
      rw [HL.out] at h2
      obtain ⟨gb, offb, hAb, -, hcellb⟩ := RdG.at_ fl2 (RdG.ext h2 hg)
      obtain rfl := hAb (by omega)
      have a0 := hcella k hlt 0 (by omega)
      have a1 := hcella k hlt 1 (by omega)
      have b0 := hcellb k hlt' 0 (by omega)
      have b1 := hcellb k hlt' 1 (by omega)
      obtain ⟨e1, e2, e3, e4, e5⟩ := HAL.out k hlt hlt'
      obtain ⟨⟨nm, b, s⟩, hx⟩ : ∃ x, x = l[k] := ⟨_, rfl⟩
      obtain ⟨⟨nm2, b2, s2⟩, hx2⟩ : ∃ x, x = l'[k] := ⟨_, rfl⟩
      rw [← hx] at a0 a1 e1 e2 e3 e4
      rw [← hx2] at b0 b1 e1 e2 e5
      obtain rfl : nm = nm2 := e1
      obtain rfl : b = b2 := e2
      have e3' : b.length ≤ 1000000000 := e3
      have hr1 : RdB w s b := e4
      have hr2 : RdB w s2 b := e5
      have c0 : wr.cell? ⟨ga, offa + k * 2, none⟩ = some (.string ⟨nm.toArray⟩) := a0
      have c1 : wr.cell? ⟨ga, offa + k * 2 + 1, none⟩ = some s := a1
      have d0 : wr.cell? ⟨gb, offb + k * 2, none⟩ = some (.string ⟨nm.toArray⟩) := b0
      have d1 : wr.cell? ⟨gb, offb + k * 2 + 1, none⟩ = some s2 := b1
      obtain ⟨As, cs, rfl⟩ := RdB.form hr1
      obtain ⟨Bs, ds, rfl⟩ := RdB.form hr2
      have HS := Lib.hid (fun wx (g : wr.grownBy wx none) => same6_q _ _ b b wx ((hr1.ext hg).ext g) ((hr2.ext hg).ext g) e3' e3')
      have HG := Lib.hid hg
      have hkb : (0 : Int) ≤ (k : Int) := by omega
      have hkl : (k : Int) < (l.length : Int) := by omega
      have hself : (nm == nm) = true := by simp
      clear hcella hcellb a0 a1 b0 b1 e3 e3' e4 e5 hr1 hr2 hx hx2 hlt' h2 hg
      go_wp2_with fail
      go_region_held3 (fun w' => w'.cell? ⟨ga, offa + k * 2, none⟩ = some (.string ⟨nm.toArray⟩) ∧ w'.cell? ⟨ga, offa + k * 2 + 1, none⟩ = some (.slice As b.length cs) ∧ w'.cell? ⟨gb, offb + k * 2, none⟩ = some (.string ⟨nm.toArray⟩) ∧ w'.cell? ⟨gb, offb + k * 2 + 1, none⟩ = some (.slice Bs b.length ds)) (go_keep) (first
        | (go_at_call 74; (with_reducible refine (HS.out _ ?_).mono ?_); (first | exact gr_drew _ _ | exact gr_refl _ _); rintro e w6 ⟨rfl, q6, rfl⟩; rw [beq_self_eq_true]))
      go_wp2
      go_roundw
      case rel => exact ⟨k + 1, by omega, by go_num, gr_none HG.out (gr_drewN _ _ _)⟩
      case measure => simp [intOf] <;> omega
    · obtain rfl : k = l.length := by omega
      have HG := Lib.hid hg
      clear hg
      go_wp2_with fail
      go_ret
      exact ⟨rfl, HG.out⟩
end Go.Proofs.YtkpmadahfmpeiaaGreat

/- PoolFlushes: what a Drop leaves of the files, plain. -/
namespace Go.Proofs.YtkpmadahfmpeiaaGreat
set_option maxRecDepth 100000

theorem sortN_filter (p : List UInt8 → Bool) (l : List (List UInt8)) : sortN (l.filter p) = (sortN l).filter p :=
  List.Perm.eq_of_pairwise (le := fun x y => x ≤ y) (fun _ _ _ _ h1 h2 => List.le_antisymm h1 h2) (sortN_up _) ((sortN_up l).filter p) ((sortN_prm _).trans ((sortN_prm l).filter p).symm)
def notB (g : List UInt8) (s : List UInt8) : Bool := !(s == g)
theorem namesF_filter (F : List Fz) (g : List UInt8) : namesF (F.filter fun x => !(x.name == g)) = (namesF F).filter (notB g) := by
  unfold namesF
  rw [List.filter_map]; rfl
theorem fg_filter (F : List Fz) {g n : List UInt8} (h : n ≠ g) : Fg (F.filter fun x => !(x.name == g)) n = Fg F n := by
  unfold Fg
  induction F with
  | nil => rfl
  | cons a l ih =>
    rw [List.filter_cons]
    by_cases ha : a.name = g
    · rw [if_neg (by simp [ha]), ih, List.find?_cons, show (a.name == n) = false from by rw [ha]; simpa using fun e => h e.symm]
    · rw [if_pos (by simpa using ha), List.find?_cons, List.find?_cons]
      cases (a.name == n) with
      | true => rfl
      | false => exact ih
theorem drop_names {F : List Fz} {g : List UInt8} (hok : ∀ n ∈ namesF F, aErr F n = 0) : namesF (aDrop F g).1 = (namesF F).filter (notB g) := by
  unfold aDrop
  by_cases he : aErr F g = 0
  · rw [if_neg (by simpa using he)]
    exact namesF_filter F g
  · rw [if_pos he]
    rw [List.filter_eq_self.2]
    intro n hn
    unfold notB
    have : n ≠ g := fun e => he (e ▸ hok n hn)
    simpa using this
theorem drop_pg {F : List Fz} {g n : List UInt8} (h : n ≠ g) : aPg (aDrop F g).1 n = aPg F n := by
  unfold aDrop
  split
  · rfl
  · show aPg (F.filter fun x => !(x.name == g)) n = aPg F n
    unfold aPg
    rw [fg_filter F h]
theorem drop_gone {F : List Fz} (g : List UInt8) : aErr (aDrop F g).1 g ≠ 0 := by
  unfold aDrop
  by_cases he : aErr F g = 0
  · rw [if_neg (by simpa using he)]
    show aErr (F.filter fun x => !(x.name == g)) g ≠ 0
    unfold aErr
    split
    · simp
    · have : Fg (F.filter fun x => !(x.name == g)) g = none := by
        unfold Fg
        rw [List.find?_eq_none.2]
        · rfl
        · intro x hx
          have := (List.mem_filter.1 hx).2
          simpa using this
      rw [this]; simp
  · rw [if_pos he]; exact he
/-- where an element of a filtered list stands. -/
theorem filter_at {α : Type} (p : α → Bool) : ∀ (l : List α) (i : Nat) (h : i < l.length), p l[i] = true → (l.filter p)[((l.take i).filter p).length]? = some l[i]
  | a :: l, 0, _, hp => by
    have hp' : p a = true := hp
    simp [hp']
  | a :: l, i + 1, h, hp => by
    have ih := filter_at p l i (by simpa using h) hp
    rw [List.take_succ_cons, List.filter_cons, List.filter_cons]
    split
    · rw [List.length_cons, List.getElem?_cons_succ]; exact ih
    · exact ih
theorem filter_step {α : Type} (p : α → Bool) (l : List α) {i : Nat} (h : i < l.length) : ((l.take (i + 1)).filter p).length = ((l.take i).filter p).length + (if p l[i] = true then 1 else 0) := by
  rw [List.take_succ_eq_append_getElem h, List.filter_append, List.length_append]
  congr 1
  rw [List.filter_cons]
  split <;> simp
end Go.Proofs.YtkpmadahfmpeiaaGreat

/- A string of bytes in memory. -/
namespace Go.Proofs.YtkpmadahfmpeiaaGreat
open Go.RowKit Go.Maps
set_option maxRecDepth 100000

theorem str_any {w : World} {A : Option Addr} {c : Nat} {b : List UInt8} (h : RdB w (.slice A b.length c) b) : (convert 33 9 (.slice A b.length c)).run Tryz.prog w = .ok (.string ⟨b.toArray⟩) w := by
  obtain ⟨g, off, hA, hcap, hmx, hcells⟩ := RdB.at_ h
  cases A with
  | none =>
    have h0 : b.length = 0 := by
      rcases Nat.eq_zero_or_pos b.length with h9 | h9
      · exact h9
      · exact absurd (hA h9) (by simp)
    obtain rfl := List.eq_nil_of_length_eq_zero h0
    exact Lib.run_convert_nil_bytes w _ _ _ c Tryz.underlying33 Tryz.underlying5 Tryz.underlying9
  | some a =>
    refine run_convert_bytes_back w _ _ _ a c b Tryz.underlying33 Tryz.underlying5 Tryz.underlying9 fun j hj => ?_
    have := hA (by omega)
    cases this
    rw [Addr.add_lit]
    exact hcells j hj
end Go.Proofs.YtkpmadahfmpeiaaGreat
