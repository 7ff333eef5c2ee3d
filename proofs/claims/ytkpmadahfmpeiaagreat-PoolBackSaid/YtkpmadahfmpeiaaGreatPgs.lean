/-
  pool, any of it: a frame emptied; what is told of a pool in memory.
-/
import Derived.Test.YtkpmadahfmpeiaaGreatPo5
import Derived.Test.YtkpmadahfmpeiaaGreatPf2
import Derived.Test.YtkpmadahfmpeiaaGreatDk
namespace Go.Proofs.YtkpmadahfmpeiaaGreat
open Go.RowKit Go.Maps
set_option maxRecDepth 100000
set_option maxHeartbeats 400000

section
variable {P : Program} {k : TypeId} {κ : Type} {J : KeyK P k κ} {w w' : World} {m n : Nat} {dom : κ → Option Value}
/-- delete(m, x), where it is there: the map is smaller by one. -/
theorem wp_vm_del1 [DecidableEq κ] {ops : Array Oper} {rest : List Oper} {o : Oper} {a : Act} {Q : Exit → Act → World → Prop} (hg : o.guard = none) {t e : TypeId} (mm x : Operand) (hop : o.op = .call { callee := .builtin .delete, args := #[mm, x], argTypes := #[t, k] })
    (ht : P.underlying t = some (.map k e)) (h : VM J w m (n + 1) dom) (hm : a.eval mm = .map (some m)) (y : κ) (hin : dom y ≠ none) (hx : a.eval x = J.kv y)
    (hK : ∀ w', VM J w' m n (fun z => if z = y then none else dom z) → w.grownBy w' (some m) → wpList P ops Q rest (a.put o.dst (.tuple #[])) w') : wpList P ops Q (o :: rest) a w := by
  obtain ⟨D, h, h0⟩ := h
  obtain ⟨b0, hb0⟩ := Option.ne_none_iff_exists'.1 hin
  have hsz := size_del_lt (VM.isMap J.keyed h) ((h0 y).2 b0 hb0).1
  have hle := h.size_le
  refine wpList_delete_own w hg mm x _ _ hop e J.keyed ht rV m (n + 1) D hm h _ _ hx (J.key y) fun w' h' g' => hK w' ?_ g'.grown
  obtain ⟨es, clock, q1, q2, q3, q4⟩ := h'
  have hes : es.size ≤ n := by
    have : Maps.size (D.del (J.kl y)) = es.size := by rw [q4]; simp [Maps.size, Go.length_sorted]
    omega
  refine ⟨D.del (J.kl y), ⟨es, clock, q1, q2, hes, q4⟩, fun z => ⟨fun hn => ?_, fun c hc => ?_⟩⟩
  · by_cases e : z = y
    · subst e; exact has_del_same
    · simp only [e, if_false] at hn
      rw [has_del_other (fun e2 => e (J.inj _ _ e2))]; exact (h0 z).1 hn
  · by_cases e : z = y
    · simp [e] at hc
    · simp only [e, if_false] at hc
      obtain ⟨k2, k3⟩ := (h0 z).2 c hc
      exact ⟨by rw [has_del_other (fun e2 => e (J.inj _ _ e2))]; exact k2, fun z2 => by rw [atKey_del_other (fun e2 => e (J.inj _ _ e2))]; exact k3 z2⟩
end
def Pl.emptied (P : Pl) (i : Nat) (x : PK) : Pl := { P with fr := P.fr.set i fr0, wh := fun z => if z = x then none else P.wh z }
section
variable {w w' : World} {B d p g mb nm : Nat} {o : Own1} {P : Pl} {S : Dk} {c : Con}
set_option maxHeartbeats 2000000 in
theorem empty_any (h : PoR w B o d p g mb P (nm + 1)) {i : Nat} {x : Fr} (hx : P.fr[i]? = some x) (hf : x.full = true) (hk : okK x.n x.k) :
    Calls Tryz.prog 97 #[.pointer (some ⟨p, 0, none⟩), .int .i64 i] w fun e w' => e = .returned (.tuple #[]) ∧ PoR w' B o d p g mb (P.emptied i ⟨x.n, x.k, hk⟩) nm ∧ Ch (po noO p g mb) w (po noO p g mb) w' := by
  obtain ⟨s0, s1, s2, s3, s4, s5⟩ := h.selfc
  obtain ⟨hi, hxe⟩ := List.getElem?_eq_some_iff.1 hx
  obtain ⟨c0, c1, c2, c3, c4, c5, c6⟩ := frame_cells h.fr hi hxe
  have hl := h.lim.2.1
  have hfz := h.fr.frozen
  have hin : P.wh ⟨x.n, x.k, hk⟩ = some i := (h.whi ⟨x.n, x.k, hk⟩ i).2 ⟨hi, by rw [hxe]; exact ⟨hf, rfl, rfl⟩⟩
  have HI := Lib.hid hi
  have HV := Lib.hid h.wh
  have HIN := Lib.hid hin
  have H := Lib.hid h
  have HX := Lib.hid hxe
  have HFU := Lib.hid hf
  clear h hin hxe hx hf
  go_enter Tryz.func97, Tryz.ntmps97
  go_wp2_with fail
  go_still_tail 12, (by kernel_rfl)
  change wpList _ _ _ _ _ w.drew
  have H1 : Hid (PoR w.drew B o d p g mb P (nm + 1)) := H.out.ext (gr_drew _ _)
  have G1 : Hid (w.grownBy w.drew none) := gr_drew _ _
  clear s0 s1 s2 s3 s4 s5 c0 c1 c2 c3 c4 c5 c6 hfz HV
  generalize w.drew = w1 at *
  have HV : Hid (VM pkK w1 mb (nm + 1) fun y => (P.wh y).map fun i => .int .i64 i) := H1.out.wh
  go_wp2_with (at_delete; refine wp_vm_del1 (J := pkK) rfl _ _ rfl Tryz.underlying111 HV.out rfl ⟨x.n, x.k, hk⟩ (by show Option.map _ (do let a ← P.wh _; pure _) ≠ none; rw [HIN.out]; simp) rfl ?_; intro w2 hv2 g2; have HB2 := Lib.hid (H1.out.fr.gr g2 (fun e => H.out.apart.2.2 (Option.some.inj e).symm)); have HS2 := Lib.hid (H1.out.self.gr g2 (fun e => H.out.apart.2.1 (Option.some.inj e).symm)); have s1 : w2.cell? ⟨p, 1, none⟩ = some (.slice (some ⟨g, 0, none⟩) P.fr.length P.fr.length) := HS2.out.cell 1; have hfz := HB2.out.frozen; obtain ⟨c0, c1, c2, c3, c4, c5, c6⟩ := frame_cells HB2.out HI.out HX.out; have HV2 := Lib.hid hv2; have HG2 := Lib.hid g2; clear hv2 g2)
  go_end0
  have hb3 := Blk.setAll HB2.out HI.out fr0
  have hg3 := gr_trans (gr_trans (gr_trans (gr_trans (gr_trans (gr_trans (gr_setCell w2 ⟨g, i * 7, none⟩ (.bool false)) (gr_setCell _ ⟨g, i * 7 + 1, none⟩ (.string ⟨#[]⟩)) (.inl rfl)) (gr_setCell _ ⟨g, i * 7 + 2, none⟩ (.int .i64 0)) (.inl rfl)) (gr_setCell _ ⟨g, i * 7 + 3, none⟩ (.slice none 0 0)) (.inl rfl))
    (gr_setCell _ ⟨g, i * 7 + 4, none⟩ (.int .i64 0)) (.inl rfl)) (gr_setCell _ ⟨g, i * 7 + 5, none⟩ (.bool false)) (.inl rfl)) (gr_setCell _ ⟨g, i * 7 + 6, none⟩ (.bool false)) (.inl rfl)
  have hb3' : Blk (((((((w2.setCell ⟨g, i * 7, none⟩ (.bool false)).setCell ⟨g, i * 7 + 1, none⟩ (.string ⟨#[]⟩)).setCell ⟨g, i * 7 + 2, none⟩ (.int .i64 0)).setCell ⟨g, i * 7 + 3, none⟩ (.slice none 0 0)).setCell ⟨g, i * 7 + 4, none⟩ (.int .i64 0)).setCell ⟨g, i * 7 + 5, none⟩ (.bool false)).setCell ⟨g, i * 7 + 6, none⟩ (.bool false)) g 134 ((P.fr.set i fr0).flatMap Fr.enc).toArray := hb3
  clear hb3 s1 hfz c0 c1 c2 c3 c4 c5 c6
  generalize hW : World.setCell _ _ (Value.bool false) = w3 at hb3' hg3 ⊢
  clear hW
  have hs3 := HS2.out.gr hg3 (fun e => H.out.apart.1 (Option.some.inj e).symm)
  have hv3 := HV2.out.gr hg3 (fun e => H.out.apart.2.2 (Option.some.inj e))
  have hlo : ∀ {x : Fr}, FrB w B o p g mb x → FrB w3 B o p g mb x := fun {x} hx =>
    ((hx.ch (Ch.ext G1.out)).far HG2.out fun q e => (hx.off q e).2.2.2.1).far hg3 fun q e => (hx.off q e).2.2.1
  have hne := po_ne noO p g mb
  have hw := H.out.whi
  refine ⟨rfl, ⟨?_, hb3', ?_, fun z j => ?_, fun y hy => ?_, H.out.off, H.out.low, H.out.apart, ?_⟩, ((Ch.ext G1.out).trans (Ch.of_gr HG2.out fun k e => by cases e; exact hne.2.2)).trans (Ch.of_gr hg3 fun k e => by cases e; exact hne.2.1)⟩
  · show Blk w3 p _ #[_, .slice (some ⟨g, 0, none⟩) (P.fr.set i fr0).length (P.fr.set i fr0).length, _, _, _, _]
    rw [List.length_set]
    exact hs3
  · have e : (fun z => (P.emptied i ⟨x.n, x.k, hk⟩).wh z |>.map fun i => Value.int .i64 i) = (fun z => if z = ⟨x.n, x.k, hk⟩ then none else (P.wh z).map fun i => Value.int .i64 i) := by
      funext z
      show ((if z = ⟨x.n, x.k, hk⟩ then none else P.wh z).map fun i => Value.int .i64 i) = _
      split <;> rfl
    rw [e]
    exact hv3
  · show (if z = ⟨x.n, x.k, hk⟩ then none else P.wh z) = some j ↔ ∃ h : j < (P.fr.set i fr0).length, ((P.fr.set i fr0)[j]).full = true ∧ ((P.fr.set i fr0)[j]).n = z.n ∧ ((P.fr.set i fr0)[j]).k = z.k
    have hwi := hw z j
    by_cases hx : z = ⟨x.n, x.k, hk⟩
    · rw [if_pos hx]
      subst hx
      constructor
      · intro e; cases e
      · rintro ⟨hj, h1, h2, h3⟩
        by_cases hij : i = j
        · subst hij
          rw [List.getElem_set_self] at h1; cases h1
        · rw [List.getElem_set_ne hij] at h1 h2 h3
          have := hwi.2 ⟨by simpa using hj, h1, h2, h3⟩
          rw [HIN.out] at this
          exact absurd (Option.some.inj this) hij
    · rw [if_neg hx, hwi]
      constructor
      · rintro ⟨hj, h1, h2, h3⟩
        have hij : i ≠ j := fun e => by
          subst e
          rw [HX.out] at h2 h3
          exact hx (PK.ext' h2.symm h3.symm)
        refine ⟨by simpa using hj, ?_⟩
        rw [List.getElem_set_ne hij]
        exact ⟨h1, h2, h3⟩
      · rintro ⟨hj, h1, h2, h3⟩
        by_cases hij : i = j
        · subst hij
          rw [List.getElem_set_self] at h1; cases h1
        · rw [List.getElem_set_ne hij] at h1 h2 h3
          exact ⟨by simpa using hj, h1, h2, h3⟩
  · rcases List.mem_or_eq_of_mem_set hy with hy | hy
    · exact hlo (H.out.bytes y hy)
    · subst hy
      exact ⟨Rd.nil _ _, (fun q e => by cases e), ⟨by simp [fr0], by simp [fr0], by simp [fr0], by simp [fr0]⟩⟩
  · show 1 ≤ (P.fr.set i fr0).length ∧ (P.fr.set i fr0).length ≤ 4096 ∧ P.hand < (P.fr.set i fr0).length ∧ _
    rw [List.length_set]
    exact H.out.lim

/-! a pool in memory -/
def Pm.pl (Q : Pm) (wh : PK → Option Nat) : Pl := ⟨Q.fr, wh, Q.hand, Q.mf, Q.mp⟩
def PoS (w : World) (B : Nat) (o : Own1) (d p g mb : Nat) (Q : Pm) : Prop := ∃ wh, PoR w B o d p g mb (Q.pl wh) (heldN Fr.full Q.fr)
section
variable {o' : Own1} {Q Q' : Pm}
theorem PoS.ch (h : PoS w B o d p g mb Q) (hc : Ch o w o' w') : PoS w' B o' d p g mb Q := by obtain ⟨wh, h⟩ := h; exact ⟨wh, h.ch hc⟩
theorem PoS.ext (h : PoS w B o d p g mb Q) (hg : w.grownBy w' none) : PoS w' B o d p g mb Q := h.ch (Ch.ext hg)
theorem PoS.lim (h : PoS w B o d p g mb Q) : 1 ≤ Q.fr.length ∧ Q.fr.length ≤ 4096 ∧ Q.hand < Q.fr.length ∧ Q.mf ≤ 4096 ∧ Q.mp ≤ 4096 := by obtain ⟨wh, h⟩ := h; exact h.lim
theorem heldN_set (q : Fr → Bool) : ∀ {fr : List Fr} {i : Nat} {x y : Fr}, fr[i]? = some x → heldN q (fr.set i y) + (if q x = true then 1 else 0) = heldN q fr + (if q y = true then 1 else 0)
  | [], i, x, y, h => by simp at h
  | a :: fr, 0, x, y, h => by
    have : a = x := by simpa using h
    subst this
    unfold heldN
    rw [List.set_cons_zero, List.filter_cons, List.filter_cons]
    by_cases h1 : q a = true <;> by_cases h2 : q y = true <;> simp [h1, h2]
  | a :: fr, i + 1, x, y, h => by
    have ih := heldN_set q (fr := fr) (i := i) (x := x) (y := y) (by simpa using h)
    unfold heldN at ih ⊢
    rw [List.set_cons_succ, List.filter_cons, List.filter_cons]
    by_cases h1 : q a = true
    · rw [if_pos h1, if_pos h1, List.length_cons, List.length_cons]; omega
    · rw [if_neg h1, if_neg h1]; exact ih
theorem PoS.cellsOk (h : PoS w B o d p g mb Q) : ∀ (i : Nat) (f : Fr), Q.fr[i]? = some f → FrB w B o p g mb f := fun i f hf => by
  obtain ⟨wh, h⟩ := h
  exact h.bytes f (List.mem_of_getElem? hf)
theorem okK_frame {f : Fr} (h : FrB w B o p g mb f) : okK f.n f.k := ⟨by have := h.len.2.1; unfold maxLen; omega, WalkArith.wf_i64 (by have := h.len.2.2.2; omega)⟩
/-- where a page is held. -/
theorem wh_at {wh : PK → Option Nat} (h : PoR w B o d p g mb (Q.pl wh) nm) {n : List UInt8} {k : Int} (hk : okK n k) : wh ⟨n, k, hk⟩ = Q.at n k := by
  cases ha : Q.at n k with
  | some i =>
    unfold Pm.at at ha
    obtain ⟨hi, h1, -⟩ := List.findIdx?_eq_some_iff_getElem.1 ha
    unfold isP at h1
    have h2 : Q.fr[i].full = true ∧ Q.fr[i].n = n ∧ Q.fr[i].k = k := by simpa using h1
    exact (h.whi ⟨n, k, hk⟩ i).2 ⟨hi, h2⟩
  | none =>
    cases hw : wh ⟨n, k, hk⟩ with
    | none => rfl
    | some i =>
      obtain ⟨hi, h1, h2, h3⟩ := (h.whi ⟨n, k, hk⟩ i).1 hw
      unfold Pm.at at ha
      rw [List.findIdx?_eq_none_iff] at ha
      have := ha Q.fr[i] (List.getElem_mem hi)
      have h1' : Q.fr[i].full = true := h1
      have h2' : Q.fr[i].n = n := h2
      have h3' : Q.fr[i].k = k := h3
      unfold isP at this
      rw [h1', h2', h3'] at this
      simp at this
/-- what is done to a pool alone. -/
def PoOut (o : Own1) (w : World) (B d p g mb : Nat) (Q' : Pm) (w' : World) : Prop := PoS w' B o d p g mb Q' ∧ Ch (po noO p g mb) w (po noO p g mb) w'
/-- .. and to the disk. -/
def PdOut (o : Own1) (w : World) (B d p g mb : Nat) (Q' : Pm) (S' : Dk) (w' : World) : Prop := ∃ o' c', DI w' B o' d S' c' ∧ PoS w' B o' d p g mb Q' ∧ Ch (po o p g mb) w (po o' p g mb) w'
theorem po_wide {w w' : World} (h : Ch (po noO p g mb) w (po noO p g mb) w') (o : Own1) : Ch (po o p g mb) w (po o p g mb) w' :=
  ⟨h.os, h.tape, h.output, h.size, fun i hi h0 => h.block i hi (by obtain ⟨h1, h2, h3, -⟩ := po_none h0; exact po_none_mk h1 h2 h3 rfl), fun _ _ h => h⟩
theorem PoOut.pd (h : PoOut o w B d p g mb Q' w') (hd : DI w B o d S c) (hp : PoS w B o d p g mb Q) : PdOut o w B d p g mb Q' S w' := by
  obtain ⟨wh, hp⟩ := hp
  exact ⟨o, c, hd.pool hp h.2, h.1, po_wide h.2 o⟩
theorem PdOut.refl (hd : DI w B o d S c) (hp : PoS w B o d p g mb Q) : PdOut o w B d p g mb Q S w := ⟨o, c, hd, hp, Ch.refl _ _⟩
theorem PdOut.ext (hd : DI w B o d S c) (hp : PoS w B o d p g mb Q) (hg : w.grownBy w' none) : PdOut o w B d p g mb Q S w' := ⟨o, c, hd.ext hg, hp.ext hg, Ch.ext hg⟩
end
end
end Go.Proofs.YtkpmadahfmpeiaaGreat

/- A disk with one file of pages: what it holds, and what is done with it. -/
namespace Go.Proofs.YtkpmadahfmpeiaaGreat
open Go.RowKit
set_option maxRecDepth 100000
set_option maxHeartbeats 400000

structure PgS (q : Nat) (S : Dk) (n : Nat) (g : Nat → List UInt8) (m : Nat) : Prop where
  idle : Idle S
  quota : S.quota = q
  nl : S.nl ≤ 256 * m
  file : ∃ c la, S.fs = [⟨an, c, la⟩] ∧ Holds c (crcS an) n g
section
variable {q n m : Nat} {S : Dk} {g : Nat → List UInt8}
theorem PgS.find (h : PgS q S n g m) : ∃ c la, S.find an = some ⟨an, c, la⟩ ∧ Holds c (crcS an) n g := by
  obtain ⟨c, la, e, hh⟩ := h.file
  exact ⟨c, la, by unfold Dk.find; rw [e]; simp, hh⟩
theorem PgS.size (h : PgS q S n g m) : S.size an = (256 * n, 0) := by
  obtain ⟨c, la, hf, hh⟩ := h.find
  rw [size_idle h.idle an_right hf]
  exact congrArg (·, 0) hh.len
theorem PgS.pages (h : PgS q S n g m) : S.ppages an = (n, 0) := by
  unfold Dk.ppages; rw [h.size]; simp
theorem PgS.used (h : PgS q S n g m) : S.used = 4 * n := by
  obtain ⟨c, la, e, hh⟩ := h.file
  unfold Dk.used; rw [e]; simp [hh.len, sectors]; omega
theorem PgS.read_ (h : PgS q S n g m) (k : Nat) : (S.read an ((k : Int) * 256) 256).1 = pgA ((S.find an).elim [] Fi.now) k := by
  obtain ⟨c, la, hf, hh⟩ := h.find
  have := read_idle (p := k * 256) (k := 256) h.idle an_right hf
  rw [show ((k * 256 : Nat) : Int) = (k : Int) * 256 from by push_cast; rfl] at this
  rw [show ((256 : Nat) : Int) = 256 from rfl] at this
  rw [this, hf]
  show _ = pgA c k
  unfold pgA
  rw [Nat.mul_comm]
theorem pread_of {S : Dk} {nm : List UInt8} {n : Nat} (hs : S.size nm = (256 * n, 0)) {k : Nat} (hk : k < n) : S.pread nm k = match pagO (S.read nm ((k : Int) * 256) 256).1 (crcS nm) k with | none => ([], 7) | some b => (b, 0) := by
  unfold Dk.pread
  rw [hs, if_neg (by omega), if_neg (by simp), if_neg (by simp; omega), Int.toNat_natCast]
  rfl
theorem PgS.pread (h : PgS q S n g m) {k : Nat} (hk : k < n) : S.pread an k = (g k, 0) := by
  rw [pread_of h.size hk, h.read_ k]
  obtain ⟨c, la, hf, hh⟩ := h.find
  rw [hf]
  show (match pagO (pgA c k) (crcS an) k with | none => ([], 7) | some b => (b, 0)) = _
  rw [hh.at_ k hk]
def updG (g : Nat → List UInt8) (k : Nat) (b : List UInt8) : Nat → List UInt8 := fun i => if i = k then b else g i
theorem PgS.write (h : PgS q S n g m) {k : Nat} (hk : k ≤ n) (hn : n ≤ 1000) (hq : 4 * (n + 1) ≤ q) {b : List UInt8} (hb : b.length ≤ 240) :
    (S.pwrite an k b).2 = 0 ∧ PgS q (S.pwrite an k b).1 (max n (k + 1)) (updG g k b) (m + 1) := by
  obtain ⟨c, la, e, hh⟩ := h.file
  have hf : S.find an = some ⟨an, c, la⟩ := by unfold Dk.find; rw [e]; simp
  have hl := pagB_len (tag := crcS an) (k := k) hb
  have hw : S.write an ((k : Int) * 256) (pagB (crcS an) k b) = (S.wrote an (k * 256) (pagB (crcS an) k b), 0) := by
    have := write_idle (S := S) (f := ⟨an, c, la⟩) (n := an) (p := k * 256) (b := pagB (crcS an) k b) h.idle an_right hf (by show k * 256 ≤ c.length; rw [hh.len]; omega) (by rw [hl]; omega) (by
      intro hx
      have hu := h.used
      have hx2 := hx.2
      unfold moreS at hx2
      rw [h.quota, hu, hl] at hx2
      have e1 : (⟨an, c, la⟩ : Fi).now.length = 256 * n := hh.len
      rw [e1] at hx2
      unfold sectors at hx2
      omega)
    rw [show ((k * 256 : Nat) : Int) = (k : Int) * 256 from by push_cast; rfl] at this
    exact this
  have hp : S.pwrite an k b = (S.wrote an (k * 256) (pagB (crcS an) k b), 0) := by
    unfold Dk.pwrite
    rw [h.size, if_neg (by omega), if_neg (by omega), if_neg (by simp), if_neg (by simp; omega), Int.toNat_natCast, hw]
  rw [hp]
  refine ⟨rfl, ⟨h.idle.1, h.idle.2⟩, h.quota, ?_, overZ c (k * 256) (pagB (crcS an) k b), la, ?_, ?_⟩
  · show S.nl + (pagB (crcS an) k b).length ≤ _
    rw [hl]; have := h.nl; omega
  · unfold Dk.wrote setF
    rw [e]
    simp
  · rw [Nat.mul_comm k]
    exact hh.write hk (by omega) (crcE_lt _ _) hb
theorem PgS.sync (h : PgS q S n g m) : (S.sync an).2 = 0 ∧ PgS q (S.sync an).1 n g m := by
  obtain ⟨c, la, e, hh⟩ := h.file
  have hf : S.find an = some ⟨an, c, la⟩ := by unfold Dk.find; rw [e]; simp
  rw [sync_idle h.idle an_right hf]
  refine ⟨rfl, ⟨h.idle.1, h.idle.2⟩, h.quota, h.nl, c, c, ?_, hh⟩
  unfold Dk.synced setF
  rw [e]
  simp
theorem newD_idle (q : Nat) : Idle (newD q) := ⟨rfl, rfl⟩
theorem PgS.create (q : Nat) (g : Nat → List UInt8) : ((newD q).create an).2 = 0 ∧ PgS q ((newD q).create an).1 0 g 0 := by
  rw [create_idle (newD_idle q) an_right rfl]
  exact ⟨rfl, ⟨rfl, rfl⟩, rfl, by simp [newD], [], [], by simp [newD], Holds.nil _ _⟩
end
/-- .. in memory. -/
def PgW (w0 w : World) (d pf q n : Nat) (g : Nat → List UInt8) (m : Nat) : Prop := ∃ o c S, DI w w0.heap.size o d S c ∧ PgS q S n g m ∧ PfR w w0.heap.size o d pf an ∧ w0.grownBy w none
section
variable {w0 w w' : World} {d pf q n m : Nat} {g : Nat → List UInt8}
theorem PgW.gr (h : PgW w0 w d pf q n g m) : w0.grownBy w none := by obtain ⟨_, _, _, _, _, _, h⟩ := h; exact h
theorem PgW.ext (h : PgW w0 w d pf q n g m) (hg : w.grownBy w' none) : PgW w0 w' d pf q n g m := by
  obtain ⟨o, c, S, h1, h2, h3, h4⟩ := h
  exact ⟨o, c, S, h1.ext hg, h2, h3.ext hg, gr_none h4 hg⟩
theorem PgW.pages (h : PgW w0 w d pf q n g m) : Calls Tryz.prog 79 #[.pointer (some ⟨pf, 0, none⟩)] w fun e w' => e = .returned (.tuple #[.int .i64 n, .int .i64 0]) ∧ w.grownBy w' none := by
  obtain ⟨o, c, S, h1, h2, h3, h4⟩ := h
  have := pages_any h1 h3 (by simp)
  rw [h2.pages] at this
  exact this
theorem PgW.read (h : PgW w0 w d pf q n g m) {k : Nat} (hk : k < n) (hn : n ≤ 1000) : Calls Tryz.prog 78 #[.pointer (some ⟨pf, 0, none⟩), .int .i64 k] w fun e w' => (∃ v, e = .returned (.tuple #[v, .int .i64 0]) ∧ OwnB w' w.heap.size v (g k)) ∧ w.grownBy w' none := by
  obtain ⟨o, c, S, h1, h2, h3, h4⟩ := h
  have := pread_any h1 h3 (by simp) k (by omega)
  rw [h2.pread hk] at this
  exact this
theorem PgW.write (h : PgW w0 w d pf q n g m) {k : Nat} (hk : k ≤ n) (hn : n ≤ 1000) (hm : m ≤ 1000000) (hq : 4 * (n + 1) ≤ q) {bv : Value} {b : List UInt8} (hb : RdB w bv b) (hb2 : b.length ≤ 240) :
    Calls Tryz.prog 77 #[.pointer (some ⟨pf, 0, none⟩), .int .i64 k, bv] w fun e w' => e = .returned (.int .i64 0) ∧ PgW w0 w' d pf q (max n (k + 1)) (updG g k b) (m + 1) := by
  obtain ⟨o, c, S, h1, h2, h3, h4⟩ := h
  have hfs : S.fs.length = 1 := by obtain ⟨c', la, e, _⟩ := h2.file; rw [e]; rfl
  refine (pwrite_any h1 h3 (by simp) k (by omega) bv b hb (by omega) (by omega) (by have := h2.nl; omega)).mono ?_
  obtain ⟨e0, hS⟩ := h2.write hk hn hq hb2
  rintro e w' ⟨rfl, o', c', h1', ch⟩
  exact ⟨by rw [e0]; rfl, o', c', _, h1', hS, h3.ch ch, ch.gr h4 fun i hi => (h1.inb i hi).1⟩
theorem PgW.sync (h : PgW w0 w d pf q n g m) : Calls Tryz.prog 55 #[.pointer (some ⟨pf, 0, none⟩)] w fun e w' => e = .returned (.int .i64 0) ∧ PgW w0 w' d pf q n g m := by
  obtain ⟨o, c, S, h1, h2, h3, h4⟩ := h
  refine (psync_any h1 h3 (by simp)).mono ?_
  obtain ⟨e0, hS⟩ := h2.sync
  rintro e w' ⟨rfl, o', c', h1', ch⟩
  exact ⟨by rw [e0]; rfl, o', c', _, h1', hS, h3.ch ch, ch.gr h4 fun i hi => (h1.inb i hi).1⟩
theorem pcreate_new (w0 w : World) (d q : Nat) (o : Own1) (c : Con) (h : DI w w0.heap.size o d (newD q) c) (hg : w0.grownBy w none) (g : Nat → List UInt8) :
    Calls Tryz.prog 76 #[.pointer (some ⟨d, 0, none⟩), .string ⟨an.toArray⟩] w fun e w' => ∃ pf, e = .returned (.tuple #[.pointer (some ⟨pf, 0, none⟩), .int .i64 0]) ∧ PgW w0 w' d pf q 0 g 0 := by
  refine (pcreate_any h (n := an) (by simp) (by simp [newD])).mono ?_
  obtain ⟨e0, hS⟩ := PgS.create q g
  rintro e w' ⟨o', c', h1, ch, ⟨_, pf, rfl, _, hp⟩ | ⟨hne, _⟩⟩
  · exact ⟨pf, rfl, o', c', _, h1, hS, hp, ch.gr hg fun i hi => (h.inb i hi).1⟩
  · exact absurd e0 hne
theorem pname_any (h : PgW w0 w d pf q n g m) : Calls Tryz.prog 80 #[.pointer (some ⟨pf, 0, none⟩)] w fun e w' => e = .returned (.string ⟨an.toArray⟩) ∧ w = w' := by
  obtain ⟨o, c, S, h1, h2, h3, h4⟩ := h
  have hc := h3.cells.2.1
  clear h1 h2 h3 h4
  go_enter Tryz.func80, Tryz.ntmps80
  go_wp2
  go_ret
  exact ⟨rfl, rfl⟩
end
end Go.Proofs.YtkpmadahfmpeiaaGreat
