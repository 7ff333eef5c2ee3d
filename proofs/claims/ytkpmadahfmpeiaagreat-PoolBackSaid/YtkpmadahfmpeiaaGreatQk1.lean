/-
  A list of what is done with a pool, in memory; vast of law10.
-/
import Derived.Test.YtkpmadahfmpeiaaGreatQo
import Derived.Test.YtkpmadahfmpeiaaGreatInt
import Derived.Test.YtkpmadahfmpeiaaGreatQs
import Derived.Test.YtkpmadahfmpeiaaGreatNf
import Derived.Test.YtkpmadahfmpeiaaGreatFls
import Derived.Test.YtkpmadahfmpeiaaGreatQf
namespace Go.Proofs.YtkpmadahfmpeiaaGreat
open Go.RowKit Go.Maps
set_option maxRecDepth 100000
set_option maxHeartbeats 400000

def opQ (l : List OpQ) : List Value := l.flatMap OpQ.cells
def RdQ (w : World) (v : Value) (l : List OpQ) : Prop := Rd w 4 v l.length (opQ l) ∧ ∀ o ∈ l, OpQk w o
theorem opQ_at (l : List OpQ) {k j : Nat} (hk : k < l.length) (hj : j < 4) : (opQ l)[k * 4 + j]? = (l[k].cells)[j]? := by
  induction l generalizing k with
  | nil => simp at hk
  | cons r l ih =>
    have hl : r.cells.length = 4 := rfl
    unfold opQ at *
    rw [List.flatMap_cons]
    cases k with
    | zero =>
      rw [List.getElem?_append_left (by omega)]
      simp
    | succ k =>
      rw [List.getElem?_append_right (by omega), hl, show (k + 1) * 4 + j - 4 = k * 4 + j from by omega]
      exact ih (by simpa using hk)
theorem RdQ.ext {w w' : World} {v : Value} {l : List OpQ} (h : RdQ w v l) (g : w.grownBy w' none) : RdQ w' v l := ⟨Rd.ext h.1 g, fun o ho => (h.2 o ho).ext g⟩
theorem RdQ.form {w : World} {v : Value} {l : List OpQ} (h : RdQ w v l) : ∃ A c, v = .slice A l.length c := by
  obtain ⟨⟨_, A, c, _, _, e, _⟩, _⟩ := h; exact ⟨A, c, e⟩
theorem RdQ.at_ {w : World} {A : Option Addr} {c : Nat} {l : List OpQ} (h : RdQ w (.slice A l.length c) l) : ∃ g off, (0 < l.length → A = some ⟨g, off, none⟩) ∧ l.length ≤ c ∧ c ≤ maxLen ∧ ∀ k (hk : k < l.length) j, j < 4 → w.cell? ⟨g, off + k * 4 + j, none⟩ = (l[k].cells)[j]? := by
  obtain ⟨⟨hl, A', c', g, off, e, hn, hc, hA0, hA, hx⟩, _⟩ := h
  cases e
  refine ⟨g, off, fun h0 => hA (by omega), hn, hc, fun k hk j hj => ?_⟩
  rw [Nat.add_assoc, hx _ (by omega), opQ_at l hk hj]
def opQW (o : OpQ) : Nat := min o.b.length 131072 + min o.name.length 131072
def sumQ (l : List OpQ) : Nat := (l.map opQW).sum
def vastQ (f : Int) (l : List OpQ) : Bool := (decide (150 < l.length) || decide (64 < f)) || decide (65536 < sumQ l)
theorem sumQ_take {l : List OpQ} {k : Nat} (hk : k < l.length) : sumQ (l.take (k + 1)) = sumQ (l.take k) + opQW l[k] := by
  unfold sumQ
  rw [List.take_succ_eq_append_getElem hk, List.map_append, List.sum_append]
  simp
theorem sumQ_mono (l : List OpQ) (k : Nat) : sumQ (l.take k) ≤ sumQ l := by
  have e : l = l.take k ++ l.drop k := (List.take_append_drop k l).symm
  conv => rhs; rw [e]
  unfold sumQ
  rw [List.map_append, List.sum_append]
  omega
theorem vastQ_no {f : Int} {l : List OpQ} (h : vastQ f l = false) : l.length ≤ 150 ∧ f ≤ 64 ∧ sumQ l ≤ 65536 := by
  unfold vastQ at h
  simp at h
  omega
theorem opQW_le {l : List OpQ} (o : OpQ) (ho : o ∈ l) : opQW o ≤ sumQ l := by
  obtain ⟨k, hk, rfl⟩ := List.getElem_of_mem ho
  have := sumQ_take hk
  have := sumQ_mono l (k + 1)
  omega
theorem opQW_small {o : OpQ} (h : opQW o ≤ 65536) : o.b.length ≤ 65536 ∧ o.name.length ≤ 65536 := by
  unfold opQW at h
  omega
set_option maxHeartbeats 2000000 in
theorem vastQ_any (f : Int) (v : Value) (l : List OpQ) (w : World) (h : RdQ w v l) :
    Calls Tryz.prog 8 #[.int .i64 f, v] w fun e w' => e = .returned (.bool (vastQ f l)) ∧ w.grownBy w' none := by
  obtain ⟨A, c, rfl⟩ := h.form
  obtain ⟨g, off, hA, hcap, hmx, hcells⟩ := h.at_
  have HA := Lib.hid hA
  have HC := Lib.hid hcells
  have HOK := Lib.hid h.2
  clear hA hcells h
  by_cases hbig : 150 < l.length
  · have hv : Hid (vastQ f l = true) := by show _ = _; unfold vastQ; simp [hbig]
    go_enter Tryz.func8, Tryz.ntmps8
    go_wp2
    go_ret
    exact ⟨by rw [hv.out]; rfl, gr_refl _ _⟩
  by_cases hfr : 64 < f
  · have hv : Hid (vastQ f l = true) := by show _ = _; unfold vastQ; simp [hfr]
    go_enter Tryz.func8, Tryz.ntmps8
    go_wp2
    go_ret
    exact ⟨by rw [hv.out]; rfl, gr_refl _ _⟩
  · have hl : l.length ≤ 150 := by omega
    have hf2 : f ≤ 64 := by omega
    have HF2 := Lib.hid hf2
    clear hbig
    go_enter Tryz.func8, Tryz.ntmps8
    go_wp2
    go_loopw [5, 6] (fun s i wr => ∃ k : Nat, k ≤ l.length ∧ i = .int .i64 k ∧ (∃ m : Nat, s = .int .i64 m ∧ Hid (m = sumQ (l.take k)) ∧ m ≤ 65536) ∧ DrewS w wr) (fun _ i _ => l.length - (intOf i).toNat)
    case atStart => exact ⟨0, by omega, rfl, ⟨0, rfl, rfl, by omega⟩, 0, rfl⟩
    case round =>
      obtain ⟨k, hk, rfl, ⟨m, rfl, hm, hm2⟩, q0, hq0⟩ := hrel
      have HQ0 := Lib.hid hq0
      clear hq0
      by_cases hlt : k < l.length
      · obtain rfl := HA.out (by omega)
        have hc := HC.out k hlt
        have hok := HOK.out l[k] (List.getElem_mem hlt)
        have hsum := sumQ_take hlt
        rcases hx : l[k] with ⟨kind, nm, i1, bv, b⟩
        rw [hx] at hc hok hsum
        obtain ⟨Ab, cb, rfl⟩ : ∃ Ab cb, bv = .slice Ab b.length cb := hok.b.form
        have c1 : wr.cell? ⟨g, off + k * 4 + 1, none⟩ = some (.string ⟨nm.toArray⟩) := by rw [HQ0.out]; exact hc 1 (by omega)
        have c3 : wr.cell? ⟨g, off + k * 4 + 3, none⟩ = some (.slice Ab b.length cb) := by rw [HQ0.out]; exact hc 3 (by omega)
        have hbr : RdB w (.slice Ab b.length cb) b := hok.b
        have hbc : b.length ≤ maxLen := by obtain ⟨_, _, _, _, _, e, h1, h2, _⟩ := hbr; cases e; omega
        have hnm : nm.length ≤ maxLen := hok.name
        obtain ⟨x1, e1⟩ : ∃ x1 : Nat, x1 = min b.length 131072 := ⟨_, rfl⟩
        obtain ⟨x2, e2⟩ : ∃ x2 : Nat, x2 = min nm.length 131072 := ⟨_, rfl⟩
        have m1 : min (b.length : Int) 131072 = (x1 : Int) := by omega
        have m2 : min (nm.length : Int) 131072 = (x2 : Int) := by omega
        have b1 : x1 ≤ 131072 ∧ x2 ≤ 131072 := by omega
        have hopw : opQW ⟨kind, nm, i1, .slice Ab b.length cb, b⟩ = x1 + x2 := by unfold opQW; dsimp only; omega
        rw [hopw] at hsum
        obtain ⟨t, ht⟩ : ∃ t : Nat, t = m + (x1 + x2) := ⟨_, rfl⟩
        have HT : Hid (t = sumQ (l.take (k + 1))) := by show _ = _; rw [hsum, ht, hm.out]
        have htb : t ≤ 600000 := by omega
        have s1 : IntKind.i64.wrap ((m : Int) + (x1 : Int)) = (m : Int) + (x1 : Int) := by rw [IntWalk.i64_in _ (by omega)]
        have s2 : IntKind.i64.wrap ((m : Int) + (x1 : Int) + (x2 : Int)) = (t : Int) := by rw [IntWalk.i64_in _ (by omega)]; omega
        have ht2 : (m : Int) + (x1 : Int) + (x2 : Int) = (t : Int) := by omega
        have hck1 : (0 : Int) ≤ (k : Int) := by omega
        have hck2 : (k : Int) < (l.length : Int) := by omega
        have htv : 65536 < t → vastQ f l = true := fun h9 => by
          unfold vastQ
          have := sumQ_mono l (k + 1)
          rw [← HT.out] at this
          simp; omega
        have HTV := Lib.hid htv
        clear hbr hc hok hsum hx e1 e2 hopw ht hm htv
        go_wp2_with fail
        go_quiet (fail)
        by_cases hov : 65536 < t
        · have hv := Lib.hid (HTV.out hov)
          go_wp2
          go_ret
          exact ⟨by rw [hv.out]; rfl, by rw [HQ0.out, World.drewN_drewN]; exact gr_drewN _ _ _⟩
        · have ht3 : t ≤ 65536 := by omega
          go_wp2
          go_roundw
          case rel => exact ⟨k + 1, by omega, by go_num, ⟨t, rfl, HT.out, ht3⟩, q0 + nq, by rw [HQ0.out, World.drewN_drewN]⟩
          case measure => simp [intOf]; omega
      · obtain rfl : k = l.length := by omega
        have hv : Hid (vastQ f l = false) := by
          show _ = _
          have := hm.out
          rw [List.take_length] at this
          unfold vastQ
          simp; omega
        go_wp2
        go_ret
        exact ⟨by rw [hv.out]; rfl, by rw [HQ0.out]; exact gr_drewN _ _ _⟩
end Go.Proofs.YtkpmadahfmpeiaaGreat

/- A pool without pins: does, and the disk's names, files and loose sectors. -/
namespace Go.Proofs.YtkpmadahfmpeiaaGreat
open Go.RowKit Go.Maps
set_option maxRecDepth 100000
set_option maxHeartbeats 400000

def isPlain (kind : Int) : Bool := kind == 0 || kind == 1 || kind == 2 || kind == 5 || kind == 6 || kind == 7
/-- what is done, and what is told: files, bytes, a number, an error. -/
structure StepR where
  F : List Fz
  b : List UInt8
  n : Int
  e : Nat
def stepF (F : List Fz) (kind : Int) (n : List UInt8) (k : Int) (b : List UInt8) : StepR :=
  if kind = 0 then ⟨(aCreate F n).1, [], 0, (aCreate F n).2⟩
  else if kind = 1 then ⟨(aDrop F n).1, [], 0, (aDrop F n).2⟩
  else if kind = 2 then ⟨F, [], ((aPg F n).length : Int), aErr F n⟩
  else if kind = 5 then ⟨F, (aRead F n k).1, 0, (aRead F n k).2⟩
  else if kind = 6 then ⟨(aWrite F n k b).1, b, 0, (aWrite F n k b).2⟩
  else ⟨F, [], 0, aErr F n⟩
section
variable {w0 w w' w1 : World} {d p m : Nat} {O : Own1} {F : List Fz} {L : List (List UInt8)} {n : List UInt8}
theorem PF.forget (h : PF w0 d p O F L m w) {L' : List (List UInt8)} (hl : ∀ s ∈ L', s ∈ L) : PF w0 d p O F L' m w := by
  obtain ⟨Q, S, h1, h2, h3, h4⟩ := h
  exact ⟨Q, S, h1, h2, h3, fun s hs => h4 s (hl s hs)⟩
theorem PF.more (h : PF w0 d p O F L m w) {m' : Nat} (hm : m ≤ m' ∧ m' ≤ 9500) : PF w0 d p O F L m' w := by
  obtain ⟨Q, S, h1, h2, h3, h4⟩ := h
  exact ⟨Q, S, h1, h2.more ⟨hm.1, by omega⟩, h3.more hm.1, h4⟩
theorem sta_pf (w0 : World) (d p : Nat) (F : List Fz) (L : List (List UInt8)) (m : Nat) : Sta w0 (fun O w => PF w0 d p O F L m w) where
  far := fun ⟨Q, S, h1, h2⟩ g hr => ⟨Q, S, h1.far g hr, h2⟩
  gr := fun ⟨_, _, h1, _⟩ => h1.gr
  fresh := fun ⟨_, _, h1, _⟩ hi => h1.fresh hi
theorem Ab.read_len {q N : Nat} {Q : Pm} {S : Dk} (h : Ab q N Q S F) (n : List UInt8) (k : Int) : (aRead F n k).1.length ≤ 240 := by
  obtain ⟨G, hG, rfl⟩ := h.ex
  unfold aRead
  split
  · simp
  · next h1 =>
    split
    · simp
    · split
      · simp
      · obtain ⟨x, hx, -, hp⟩ := aErr_some hG (by simpa using h1)
        rw [hp]
        show (x.pages.getD k.toNat []).length ≤ 240
        rw [List.getD_eq_getElem?_getD]
        cases hk : x.pages[k.toNat]? with
        | none => simp
        | some b => exact (hG.ok x hx).small b (List.mem_of_getElem? hk)
theorem PF.read_len (h : PF w0 d p O F L m w) (n : List UInt8) (k : Int) : (aRead F n k).1.length ≤ 240 := by obtain ⟨Q, S, -, h2, -⟩ := h; exact h2.read_len n k
theorem blk_ownF {v : Value} {q : Nat} (h : blk v = some q) : v.ownBlock = some q := by
  cases v with
  | slice A n c =>
    cases A with
    | none => cases h
    | some a =>
      have h2 : (if c = 0 then none else some a.block) = some q := h
      split at h2
      · cases h2
      · exact h2
  | _ => cases h
theorem pf_does (h : PF w0 d p O F L m w) (hm : m ≤ 9000) {kind : Int} (hkd : isPlain kind = true) (hn : n.length ≤ 1000000000) {k : Int} (hk : -9223372036854775808 ≤ k ∧ k ≤ 9223372036854775807) {bv : Value} {b : List UInt8} (hb : RdB w bv b) (hbl : b.length ≤ 100000) :
    Calls Tryz.prog 13 #[.pointer (some ⟨p, 0, none⟩), .pointer (some ⟨d, 0, none⟩), .agg #[.int .i64 kind, .string ⟨n.toArray⟩, .int .i64 k, bv]] w (ToldQ (fun O w => PF w0 d p O (stepF F kind n k b).F [] (m + 1) w) O w (stepF F kind n k b).b (stepF F kind n k b).n (stepF F kind n k b).e) := by
  have hS := sta_pf w0 d p F L m
  have hS1 : ∀ F', Sta w0 (fun O w => PF w0 d p O F' [] (m + 1) w) := fun F' => sta_pf w0 d p F' [] (m + 1)
  have hkd' : kind = 0 ∨ kind = 1 ∨ kind = 2 ∨ kind = 5 ∨ kind = 6 ∨ kind = 7 := by
    unfold isPlain at hkd
    simp at hkd
    omega
  by_cases k0 : kind = 0
  · subst k0
    exact qdoes_create hS (hS1 _) h n k bv fun W g => ((h.ext g).create hm hn)
  by_cases k1 : kind = 1
  · subst k1
    exact qdoes_drop hS (hS1 _) h n k bv fun W g => ((h.ext g).drop hm hn)
  by_cases k2 : kind = 2
  · subst k2
    exact qdoes_pages hS (hS1 _) h n k bv fun W g => ((h.ext g).pages hn).mono fun e w' ⟨e1, g1⟩ => ⟨e1, O, (((h.ext g).ext g1).forget (fun s hs => by cases hs)).more ⟨by omega, by omega⟩, Ch.ext g1⟩
  by_cases k5 : kind = 5
  · subst k5
    refine (qdoes_read hS (SF := fun _ O w => PF w0 d p O F [] (m + 1) w) (fun _ => hS1 _) h n k bv (P := fun r er => r = (aRead F n k).1 ∧ er = (aRead F n k).2) (fun r er hr => by rw [hr.1]; have := h.read_len n k; omega) fun W g => ((h.ext g).read hm hn hk).mono fun e w' ⟨vb, e1, ho, O', q1, q2, q3⟩ => ⟨vb, _, _, ⟨rfl, rfl⟩, e1, ho, O', q1, q2, fun q e => q3 q (blk_ownF e)⟩).mono ?_
    rintro e w' ⟨r, er, ⟨rfl, rfl⟩, hq⟩
    exact hq
  by_cases k6 : kind = 6
  · subst k6
    refine (qdoes_write hS (SF := fun _ O w => PF w0 d p O (aWrite F n k b).1 [] (m + 1) w) (fun _ => hS1 _) h n k hb hbl (P := fun er => er = (aWrite F n k b).2) fun W v g hv hvo => ((h.ext g).write hm hn hk hv (fun q e => ⟨(hvo q e).1, h.fresh (hvo q e).2⟩) (by omega)).mono fun e w' ⟨e1, k1⟩ => ⟨_, rfl, e1, k1⟩).mono ?_
    rintro e w' ⟨er, rfl, hq⟩
    exact hq
  have k7 : kind = 7 := by omega
  subst k7
  exact qdoes_flush hS (hS1 _) h n k bv fun W g => ((h.ext g).flush hm hn).mono fun e w' ⟨e1, O', q1, q2⟩ => ⟨e1, O', q1.forget (fun s hs => by cases hs), q2⟩
theorem PF.names (h : PF w0 d p O F L m w) (hm : m ≤ 9500) : Calls Tryz.prog 39 #[.pointer (some ⟨d, 0, none⟩)] w fun e w' => ∃ v, e = .returned v ∧ OwnS w' w.heap.size v (sortN (namesF F)) ∧ w.grownBy w' none := by
  obtain ⟨Q, S, h1, h2, h3, -⟩ := h
  obtain ⟨o, c, g, mb, rfl, k1, k2⟩ := h1.ex
  obtain ⟨G, hG, rfl⟩ := h2.ex
  rw [← names_fz hG]
  exact names_gen sortS k1 (by have := h3.sm.fl; omega)
/-- what Files tells where all is flushed. -/
def FilesF (w : World) (l : List Fl) (F : List Fz) : Prop := l.map Fl.n = sortN (namesF F) ∧ ∀ x ∈ l, x.b = img x.n (aPg F x.n) ∧ RdB w x.s x.b
theorem FilesF.ext {l : List Fl} (h : FilesF w l F) (g : w.grownBy w' none) : FilesF w' l F := ⟨h.1, fun x hx => ⟨(h.2 x hx).1, (h.2 x hx).2.ext g⟩⟩
theorem PF.files (h : PF w0 d p O F L m w) (hm : m ≤ 9500) (hL : ∀ s ∈ namesF F, s ∈ L) : Calls Tryz.prog 31 #[.pointer (some ⟨d, 0, none⟩)] w fun e w' => ∃ v l, e = .returned v ∧ OwnF w' w.heap.size v l ∧ FilesF w' l F ∧ (∀ x ∈ l, ∀ q, blk x.s = some q → w.heap.size ≤ q ∧ q < w'.heap.size) ∧ w.grownBy w' none := by
  obtain ⟨Q, S, h1, h2, h3, h4⟩ := h
  obtain ⟨o, c, g, mb, rfl, k1, k2⟩ := h1.ex
  have hnm : S.fs.map Fi.name = namesF F := by obtain ⟨G, hG, rfl⟩ := h2.ex; exact names_fz hG
  refine (files_gen sortS k1 (by have := h3.sm.fl; omega)).mono ?_
  rintro e w' ⟨v, l, rfl, o1, p1, b1, n1, g1⟩
  rw [hnm] at p1
  refine ⟨v, l, rfl, o1, ⟨p1, fun x hx => ⟨?_, (o1.2.2 x hx).1⟩⟩, n1, g1⟩
  have hmem : x.n ∈ namesF F := (sortN_prm _).mem_iff.1 (by rw [← p1]; exact List.mem_map.2 ⟨x, hx, rfl⟩)
  rw [b1 x hx]
  exact h2.nowOf hmem (h4 _ (hL _ hmem))
theorem PF.held0 (h : PF w0 d p O F L m w) (hL : ∀ s ∈ namesF F, s ∈ L) : Calls Tryz.prog 41 #[.pointer (some ⟨p, 0, none⟩)] w fun e w' => ∃ a b : Nat, e = .returned (.tuple #[.int .i64 a, .int .i64 b, .int .i64 0]) ∧ w.grownBy w' none := by
  obtain ⟨Q, S, h1, h2, h3, h4⟩ := h
  have e := h2.clean fun n hn => h4 n (hL n hn)
  have := h1.held
  rw [e] at this
  exact this.mono fun e w' ⟨e1, g1⟩ => ⟨_, _, e1, g1⟩
theorem PF.loose0 (h : PF w0 d p O F L m w) (hm : m ≤ 9500) (hL : ∀ s ∈ namesF F, s ∈ L) : Calls Tryz.prog 40 #[.pointer (some ⟨d, 0, none⟩)] w fun e w' => ∃ A c, e = .returned (.slice A 0 c) ∧ w.grownBy w' none := by
  obtain ⟨Q, S, h1, h2, h3, h4⟩ := h
  obtain ⟨o, c, g, mb, rfl, k1, k2⟩ := h1.ex
  refine (loose_any sorts_any k1 (looseOk k1 h3.sm.li) (by have := h3.sm.nl; omega)).mono ?_
  rintro e w' ⟨v, l, rfl, o1, -, hls, hok, -, g1⟩
  have hl : l = [] := by
    cases l with
    | nil => rfl
    | cons x l =>
      exfalso
      have := (hls x.name (x.page.toNat : Int) (hok x (by simp))).2 ⟨x.page, by simp, rfl⟩
      rw [h2.tight h3.sm.li (fun n hn => h4 n (hL n hn))] at this
      cases this
  subst hl
  obtain ⟨_, A, c9, _, _, e, _⟩ := o1
  exact ⟨A, c9, by rw [e]; rfl, g1⟩
theorem PF.drop2 (h : PF w0 d p O F L m w) (hm : m ≤ 9000) (hn : n.length ≤ 1000000000) :
    Calls Tryz.prog 42 #[.pointer (some ⟨p, 0, none⟩), .string ⟨n.toArray⟩] w fun e w' => e = .returned (.int .i64 (aDrop F n).2) ∧ PFn w0 d p O (aDrop F n).1 (L.filter fun s => !(s == n)) (m + 1) w w' := by
  obtain ⟨Q, S, h1, h2, h3, h4⟩ := h
  refine (h1.drop hn).mono ?_
  rintro e w' ⟨rfl, O', k1, k2⟩
  obtain ⟨r1, r2⟩ := h2.drop n
  rw [r1]
  exact ⟨rfl, O', ⟨_, _, k1, r2.more ⟨by omega, by omega⟩, h3.drop n, fun s hs => by
    obtain ⟨q1, q2⟩ := List.mem_filter.1 hs
    exact flushed_drop h2 (by simpa using q2) (h4 s q1)⟩, k2⟩
theorem plain_any (kind : Int) (s : ByteArray) (k : Int) (bv : Value) (w : World) : Calls Tryz.prog 12 #[.agg #[.int .i64 kind, .string s, .int .i64 k, bv]] w fun e w' => e = .returned (.bool (isPlain kind)) ∧ w.grownBy w' none := by
  by_cases k0 : kind = 0
  · subst k0
    go_enter Tryz.func12, Tryz.ntmps12
    go_wp2_with fail
    go_ret
    exact ⟨rfl, gr_alloc _ _ none⟩
  by_cases k1 : kind = 1
  · subst k1
    go_enter Tryz.func12, Tryz.ntmps12
    go_wp2_with fail
    go_ret
    exact ⟨rfl, gr_alloc _ _ none⟩
  by_cases k2 : kind = 2
  · subst k2
    go_enter Tryz.func12, Tryz.ntmps12
    go_wp2_with fail
    go_ret
    exact ⟨rfl, gr_alloc _ _ none⟩
  by_cases k5 : kind = 5
  · subst k5
    go_enter Tryz.func12, Tryz.ntmps12
    go_wp2_with fail
    go_ret
    exact ⟨rfl, gr_alloc _ _ none⟩
  by_cases k6 : kind = 6
  · subst k6
    go_enter Tryz.func12, Tryz.ntmps12
    go_wp2_with fail
    go_ret
    exact ⟨rfl, gr_alloc _ _ none⟩
  by_cases k7 : kind = 7
  · subst k7
    go_enter Tryz.func12, Tryz.ntmps12
    go_wp2_with fail
    go_ret
    exact ⟨rfl, gr_alloc _ _ none⟩
  go_enter Tryz.func12, Tryz.ntmps12
  go_wp2_with fail
  go_ret
  exact ⟨rfl, gr_alloc _ _ none⟩
end
end Go.Proofs.YtkpmadahfmpeiaaGreat
