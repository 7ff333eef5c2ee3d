/-
  pool, any of it: a frame emptied; what is told of a pool in memory.
-/
import Derived.Test.YtkfokgjpeaibpaaPgs
import Derived.Test.YtkfokgjpeaibpaaPo5
import Derived.Test.YtkfokgjpeaibpaaVm
import Derived.Test.YtkfokgjpeaibpaaSec
import Derived.Test.YtkfokgjpeaibpaaRg
import Derived.Test.YtkfokgjpeaibpaaDk
namespace Go.Proofs.Ytkfokgjpeaibpaa
open Go.RowKit Go.Maps
set_option maxRecDepth 100000
set_option maxHeartbeats 400000

section
variable {P : Program} {k : TypeId} {κ : Type} {J : KeyK P k κ} {w w' : World} {m n : Nat} {dom : κ → Option Value}
/-- delete(m, x), where it is there: the map is smaller by one. -/
theorem wp_vm_del1 [DecidableEq κ] {ops : Array Oper} {rest : List Oper} {o : Oper} {a : Act} {Q : Exit → Act → World → Prop} (hg : o.guard = none) {t e : TypeId} (mm x : Operand) (hop : o.op = .call { callee := .builtin .delete, args := #[mm, x], argTypes := #[t, k] })
    (ht : P.underlying t = some (.map k e)) (h : VM J w m (n + 1) dom) (hm : a.eval mm = .map (some m)) (y : κ) (hin : dom y ≠ none) (hx : a.eval x = J.kv y)
    (hK : ∀ w', VM J w' m n (fun z => if z = y then none else dom z) → w.grownBy w' (some m) → wpList P ops Q rest (a.put o.dst (.tuple #[])) w') : wpList P ops Q (o :: rest) a w := by
  obtain ⟨D, h, h0⟩ := h
  obtain ⟨b0, hb0⟩ := Option.ne_none_iff_exists'.1 hin
  have hsz := size_del_lt (VM.isMap J.keyed h) ((h0 y).2 b0 hb0).1
  have hle := h.size_le
  refine wpList_delete_own w hg mm x _ _ hop e J.keyed ht rV m (n + 1) D hm h _ _ hx (J.key y) fun w' h' g' => hK w' ?_ g'.grown
  obtain ⟨es, clock, q1, q2, q3, q4⟩ := h'
  have hes : es.size ≤ n := by
    have : Maps.size (D.del (J.kl y)) = es.size := by rw [q4]; simp [Maps.size, Go.length_sorted]
    omega
  refine ⟨D.del (J.kl y), ⟨es, clock, q1, q2, hes, q4⟩, fun z => ⟨fun hn => ?_, fun c hc => ?_⟩⟩
  · by_cases e : z = y
    · subst e; exact has_del_same
    · simp only [e, if_false] at hn
      rw [has_del_other (fun e2 => e (J.inj _ _ e2))]; exact (h0 z).1 hn
  · by_cases e : z = y
    · simp [e] at hc
    · simp only [e, if_false] at hc
      obtain ⟨k2, k3⟩ := (h0 z).2 c hc
      exact ⟨by rw [has_del_other (fun e2 => e (J.inj _ _ e2))]; exact k2, fun z2 => by rw [atKey_del_other (fun e2 => e (J.inj _ _ e2))]; exact k3 z2⟩
end
def Pl.emptied (P : Pl) (i : Nat) (x : PK) : Pl := { P with fr := P.fr.set i fr0, wh := fun z => if z = x then none else P.wh z }
section
variable {w w' : World} {B d p g mb nm : Nat} {o : Own1} {P : Pl} {S : Dk} {c : Con}
set_option maxHeartbeats 2000000 in
theorem empty_any (h : PoR w B o d p g mb P (nm + 1)) {i : Nat} {x : Fr} (hx : P.fr[i]? = some x) (hf : x.full = true) (hk : okK x.n x.k) :
    Calls Try.prog 46 #[.pointer (some ⟨p, 0, none⟩), .int .i64 i] w fun e w' => e = .returned (.tuple #[]) ∧ PoR w' B o d p g mb (P.emptied i ⟨x.n, x.k, hk⟩) nm ∧ Ch (po noO p g mb) w (po noO p g mb) w' := by
  obtain ⟨s0, s1, s2, s3, s4, s5⟩ := h.selfc
  obtain ⟨hi, hxe⟩ := List.getElem?_eq_some_iff.1 hx
  obtain ⟨c0, c1, c2, c3, c4, c5, c6⟩ := frame_cells h.fr hi hxe
  have hl := h.lim.2.1
  have hfz := h.fr.frozen
  have hin : P.wh ⟨x.n, x.k, hk⟩ = some i := (h.whi ⟨x.n, x.k, hk⟩ i).2 ⟨hi, by rw [hxe]; exact ⟨hf, rfl, rfl⟩⟩
  have HI := Lib.hid hi
  have HV := Lib.hid h.wh
  have HIN := Lib.hid hin
  have H := Lib.hid h
  have HX := Lib.hid hxe
  have HFU := Lib.hid hf
  clear h hin hxe hx hf
  go_enter Try.func46, Try.ntmps46
  go_wp2_with fail
  go_still_tail 12, (by kernel_rfl)
  change wpList _ _ _ _ _ w.drew
  have H1 : Hid (PoR w.drew B o d p g mb P (nm + 1)) := H.out.ext (gr_drew _ _)
  have G1 : Hid (w.grownBy w.drew none) := gr_drew _ _
  clear s0 s1 s2 s3 s4 s5 c0 c1 c2 c3 c4 c5 c6 hfz HV
  generalize w.drew = w1 at *
  have HV : Hid (VM pkK w1 mb (nm + 1) fun y => (P.wh y).map fun i => .int .i64 i) := H1.out.wh
  go_wp2_with (at_delete; refine wp_vm_del1 (J := pkK) rfl _ _ rfl Try.underlying71 HV.out rfl ⟨x.n, x.k, hk⟩ (by show Option.map _ (do let a ← P.wh _; pure _) ≠ none; rw [HIN.out]; simp) rfl ?_; intro w2 hv2 g2; have HB2 := Lib.hid (H1.out.fr.gr g2 (fun e => H.out.apart.2.2 (Option.some.inj e).symm)); have HS2 := Lib.hid (H1.out.self.gr g2 (fun e => H.out.apart.2.1 (Option.some.inj e).symm)); have s1 : w2.cell? ⟨p, 1, none⟩ = some (.slice (some ⟨g, 0, none⟩) P.fr.length P.fr.length) := HS2.out.cell 1; have hfz := HB2.out.frozen; obtain ⟨c0, c1, c2, c3, c4, c5, c6⟩ := frame_cells HB2.out HI.out HX.out; have HV2 := Lib.hid hv2; have HG2 := Lib.hid g2; clear hv2 g2)
  go_end0
  have hb3 := Blk.setAll HB2.out HI.out fr0
  have hg3 := gr_trans (gr_trans (gr_trans (gr_trans (gr_trans (gr_trans (gr_setCell w2 ⟨g, i * 7, none⟩ (.bool false)) (gr_setCell _ ⟨g, i * 7 + 1, none⟩ (.string ⟨#[]⟩)) (.inl rfl)) (gr_setCell _ ⟨g, i * 7 + 2, none⟩ (.int .i64 0)) (.inl rfl)) (gr_setCell _ ⟨g, i * 7 + 3, none⟩ (.slice none 0 0)) (.inl rfl))
    (gr_setCell _ ⟨g, i * 7 + 4, none⟩ (.int .i64 0)) (.inl rfl)) (gr_setCell _ ⟨g, i * 7 + 5, none⟩ (.bool false)) (.inl rfl)) (gr_setCell _ ⟨g, i * 7 + 6, none⟩ (.bool false)) (.inl rfl)
  have hb3' : Blk (((((((w2.setCell ⟨g, i * 7, none⟩ (.bool false)).setCell ⟨g, i * 7 + 1, none⟩ (.string ⟨#[]⟩)).setCell ⟨g, i * 7 + 2, none⟩ (.int .i64 0)).setCell ⟨g, i * 7 + 3, none⟩ (.slice none 0 0)).setCell ⟨g, i * 7 + 4, none⟩ (.int .i64 0)).setCell ⟨g, i * 7 + 5, none⟩ (.bool false)).setCell ⟨g, i * 7 + 6, none⟩ (.bool false)) g 77 ((P.fr.set i fr0).flatMap Fr.enc).toArray := hb3
  clear hb3 s1 hfz c0 c1 c2 c3 c4 c5 c6
  generalize hW : World.setCell _ _ (Value.bool false) = w3 at hb3' hg3 ⊢
  clear hW
  have hs3 := HS2.out.gr hg3 (fun e => H.out.apart.1 (Option.some.inj e).symm)
  have hv3 := HV2.out.gr hg3 (fun e => H.out.apart.2.2 (Option.some.inj e))
  have hlo : ∀ {x : Fr}, FrB w B o p g mb x → FrB w3 B o p g mb x := fun {x} hx =>
    ((hx.ch (Ch.ext G1.out)).far HG2.out fun q e => (hx.off q e).2.2.2.1).far hg3 fun q e => (hx.off q e).2.2.1
  have hne := po_ne noO p g mb
  have hw := H.out.whi
  refine ⟨rfl, ⟨?_, hb3', ?_, fun z j => ?_, fun y hy => ?_, H.out.off, H.out.low, H.out.apart, ?_⟩, ((Ch.ext G1.out).trans (Ch.of_gr HG2.out fun k e => by cases e; exact hne.2.2)).trans (Ch.of_gr hg3 fun k e => by cases e; exact hne.2.1)⟩
  · show Blk w3 p _ #[_, .slice (some ⟨g, 0, none⟩) (P.fr.set i fr0).length (P.fr.set i fr0).length, _, _, _, _]
    rw [List.length_set]
    exact hs3
  · have e : (fun z => (P.emptied i ⟨x.n, x.k, hk⟩).wh z |>.map fun i => Value.int .i64 i) = (fun z => if z = ⟨x.n, x.k, hk⟩ then none else (P.wh z).map fun i => Value.int .i64 i) := by
      funext z
      show ((if z = ⟨x.n, x.k, hk⟩ then none else P.wh z).map fun i => Value.int .i64 i) = _
      split <;> rfl
    rw [e]
    exact hv3
  · show (if z = ⟨x.n, x.k, hk⟩ then none else P.wh z) = some j ↔ ∃ h : j < (P.fr.set i fr0).length, ((P.fr.set i fr0)[j]).full = true ∧ ((P.fr.set i fr0)[j]).n = z.n ∧ ((P.fr.set i fr0)[j]).k = z.k
    have hwi := hw z j
    by_cases hx : z = ⟨x.n, x.k, hk⟩
    · rw [if_pos hx]
      subst hx
      constructor
      · intro e; cases e
      · rintro ⟨hj, h1, h2, h3⟩
        by_cases hij : i = j
        · subst hij
          rw [List.getElem_set_self] at h1; cases h1
        · rw [List.getElem_set_ne hij] at h1 h2 h3
          have := hwi.2 ⟨by simpa using hj, h1, h2, h3⟩
          rw [HIN.out] at this
          exact absurd (Option.some.inj this) hij
    · rw [if_neg hx, hwi]
      constructor
      · rintro ⟨hj, h1, h2, h3⟩
        have hij : i ≠ j := fun e => by
          subst e
          rw [HX.out] at h2 h3
          exact hx (PK.ext' h2.symm h3.symm)
        refine ⟨by simpa using hj, ?_⟩
        rw [List.getElem_set_ne hij]
        exact ⟨h1, h2, h3⟩
      · rintro ⟨hj, h1, h2, h3⟩
        by_cases hij : i = j
        · subst hij
          rw [List.getElem_set_self] at h1; cases h1
        · rw [List.getElem_set_ne hij] at h1 h2 h3
          exact ⟨by simpa using hj, h1, h2, h3⟩
  · rcases List.mem_or_eq_of_mem_set hy with hy | hy
    · exact hlo (H.out.bytes y hy)
    · subst hy
      exact ⟨Rd.nil _ _, (fun q e => by cases e), ⟨by simp [fr0], by simp [fr0], by simp [fr0], by simp [fr0]⟩⟩
  · show 1 ≤ (P.fr.set i fr0).length ∧ (P.fr.set i fr0).length ≤ 4096 ∧ P.hand < (P.fr.set i fr0).length ∧ _
    rw [List.length_set]
    exact H.out.lim

/-! a pool in memory -/
def Pm.pl (Q : Pm) (wh : PK → Option Nat) : Pl := ⟨Q.fr, wh, Q.hand, Q.mf, Q.mp⟩
def PoS (w : World) (B : Nat) (o : Own1) (d p g mb : Nat) (Q : Pm) : Prop := ∃ wh, PoR w B o d p g mb (Q.pl wh) (heldN Fr.full Q.fr)
section
variable {o' : Own1} {Q Q' : Pm}
theorem PoS.ch (h : PoS w B o d p g mb Q) (hc : Ch o w o' w') : PoS w' B o' d p g mb Q := by obtain ⟨wh, h⟩ := h; exact ⟨wh, h.ch hc⟩
theorem PoS.ext (h : PoS w B o d p g mb Q) (hg : w.grownBy w' none) : PoS w' B o d p g mb Q := h.ch (Ch.ext hg)
theorem PoS.lim (h : PoS w B o d p g mb Q) : 1 ≤ Q.fr.length ∧ Q.fr.length ≤ 4096 ∧ Q.hand < Q.fr.length ∧ Q.mf ≤ 4096 ∧ Q.mp ≤ 4096 := by obtain ⟨wh, h⟩ := h; exact h.lim
theorem heldN_set (q : Fr → Bool) : ∀ {fr : List Fr} {i : Nat} {x y : Fr}, fr[i]? = some x → heldN q (fr.set i y) + (if q x = true then 1 else 0) = heldN q fr + (if q y = true then 1 else 0)
  | [], i, x, y, h => by simp at h
  | a :: fr, 0, x, y, h => by
    have : a = x := by simpa using h
    subst this
    unfold heldN
    rw [List.set_cons_zero, List.filter_cons, List.filter_cons]
    by_cases h1 : q a = true <;> by_cases h2 : q y = true <;> simp [h1, h2]
  | a :: fr, i + 1, x, y, h => by
    have ih := heldN_set q (fr := fr) (i := i) (x := x) (y := y) (by simpa using h)
    unfold heldN at ih ⊢
    rw [List.set_cons_succ, List.filter_cons, List.filter_cons]
    by_cases h1 : q a = true
    · rw [if_pos h1, if_pos h1, List.length_cons, List.length_cons]; omega
    · rw [if_neg h1, if_neg h1]; exact ih
theorem PoS.cellsOk (h : PoS w B o d p g mb Q) : ∀ (i : Nat) (f : Fr), Q.fr[i]? = some f → FrB w B o p g mb f := fun i f hf => by
  obtain ⟨wh, h⟩ := h
  exact h.bytes f (List.mem_of_getElem? hf)
theorem okK_frame {f : Fr} (h : FrB w B o p g mb f) : okK f.n f.k := ⟨by have := h.len.2.1; unfold maxLen; omega, WalkArith.wf_i64 (by have := h.len.2.2.2; omega)⟩
/-- where a page is held. -/
theorem wh_at {wh : PK → Option Nat} (h : PoR w B o d p g mb (Q.pl wh) nm) {n : List UInt8} {k : Int} (hk : okK n k) : wh ⟨n, k, hk⟩ = Q.at n k := by
  cases ha : Q.at n k with
  | some i =>
    unfold Pm.at at ha
    obtain ⟨hi, h1, -⟩ := List.findIdx?_eq_some_iff_getElem.1 ha
    unfold isP at h1
    have h2 : Q.fr[i].full = true ∧ Q.fr[i].n = n ∧ Q.fr[i].k = k := by simpa using h1
    exact (h.whi ⟨n, k, hk⟩ i).2 ⟨hi, h2⟩
  | none =>
    cases hw : wh ⟨n, k, hk⟩ with
    | none => rfl
    | some i =>
      obtain ⟨hi, h1, h2, h3⟩ := (h.whi ⟨n, k, hk⟩ i).1 hw
      unfold Pm.at at ha
      rw [List.findIdx?_eq_none_iff] at ha
      have := ha Q.fr[i] (List.getElem_mem hi)
      have h1' : Q.fr[i].full = true := h1
      have h2' : Q.fr[i].n = n := h2
      have h3' : Q.fr[i].k = k := h3
      unfold isP at this
      rw [h1', h2', h3'] at this
      simp at this
/-- what is done to a pool alone. -/
def PoOut (o : Own1) (w : World) (B d p g mb : Nat) (Q' : Pm) (w' : World) : Prop := PoS w' B o d p g mb Q' ∧ Ch (po noO p g mb) w (po noO p g mb) w'
/-- .. and to the disk. -/
def PdOut (o : Own1) (w : World) (B d p g mb : Nat) (Q' : Pm) (S' : Dk) (w' : World) : Prop := ∃ o' c', DI w' B o' d S' c' ∧ PoS w' B o' d p g mb Q' ∧ Ch (po o p g mb) w (po o' p g mb) w'
theorem po_wide {w w' : World} (h : Ch (po noO p g mb) w (po noO p g mb) w') (o : Own1) : Ch (po o p g mb) w (po o p g mb) w' :=
  ⟨h.os, h.tape, h.output, h.size, fun i hi h0 => h.block i hi (by obtain ⟨h1, h2, h3, -⟩ := po_none h0; exact po_none_mk h1 h2 h3 rfl), fun _ _ h => h⟩
theorem PoOut.pd (h : PoOut o w B d p g mb Q' w') (hd : DI w B o d S c) (hp : PoS w B o d p g mb Q) : PdOut o w B d p g mb Q' S w' := by
  obtain ⟨wh, hp⟩ := hp
  exact ⟨o, c, hd.pool hp h.2, h.1, po_wide h.2 o⟩
theorem PdOut.refl (hd : DI w B o d S c) (hp : PoS w B o d p g mb Q) : PdOut o w B d p g mb Q S w := ⟨o, c, hd, hp, Ch.refl _ _⟩
theorem PdOut.ext (hd : DI w B o d S c) (hp : PoS w B o d p g mb Q) (hg : w.grownBy w' none) : PdOut o w B d p g mb Q S w' := ⟨o, c, hd.ext hg, hp.ext hg, Ch.ext hg⟩
end
end
end Go.Proofs.Ytkfokgjpeaibpaa

/- A disk with one file: plain. -/
namespace Go.Proofs.Ytkfokgjpeaibpaa

structure One (S : Dk) (n now lasts : List UInt8) (q : Nat) : Prop where
  idle : Idle S
  fs : S.fs = [⟨n, now, lasts⟩]
  q : S.quota = q
section
variable {S : Dk} {n now lasts : List UInt8} {q : Nat}
theorem One.find (h : One S n now lasts q) : S.find n = some ⟨n, now, lasts⟩ := by unfold Dk.find; rw [h.fs]; simp
theorem One.used (h : One S n now lasts q) : S.used = sectors now.length := by unfold Dk.used; rw [h.fs]; simp
theorem One.fl (h : One S n now lasts q) : S.fs.length = 1 := by rw [h.fs]; rfl
theorem One.nowOf (h : One S n now lasts q) : S.nowOf n = now := nowOf_some h.find
theorem One.lastsOf (h : One S n now lasts q) : S.lastsOf n = lasts := lastsOf_some h.find
theorem one_new (q : Nat) {n : List UInt8} (hr : rightB n = true) : ((newD q).create n).2 = 0 ∧ One ((newD q).create n).1 n [] [] q := by
  have := create_idle (S := newD q) (n := n) ⟨rfl, rfl⟩ hr rfl
  rw [this]
  exact ⟨rfl, ⟨rfl, rfl⟩, rfl, rfl⟩
theorem setF_one (n now lasts : List UInt8) (g : Fi → Fi) : setF [⟨n, now, lasts⟩] n g = [g ⟨n, now, lasts⟩] := by simp [setF]
theorem One.write (h : One S n now lasts q) (hr : rightB n = true) {p : Nat} {b : List UInt8} (hp : p ≤ now.length) (hl : p + b.length ≤ 16777216) (hq : sectors (max now.length (p + b.length)) ≤ q) :
    (S.write n p b).2 = 0 ∧ One (S.write n p b).1 n (overZ now p b) lasts q ∧ (S.write n p b).1 = S.wrote n p b := by
  have e := write_idle (S := S) (n := n) (p := p) (b := b) h.idle hr h.find hp hl (by
    unfold moreS
    rw [h.used, h.q]
    show ¬ (_ ∧ (q : Int) < (sectors now.length : Int) + ((sectors (max now.length (p + b.length)) : Int) - sectors now.length))
    omega)
  rw [e]
  refine ⟨rfl, ⟨⟨h.idle.1, h.idle.2⟩, ?_, h.q⟩, rfl⟩
  show setF S.fs n _ = _
  rw [h.fs, setF_one]
theorem One.sync (h : One S n now lasts q) (hr : rightB n = true) : (S.sync n).2 = 0 ∧ One (S.sync n).1 n now now q ∧ (S.sync n).1 = S.synced n := by
  rw [sync_idle h.idle hr h.find]
  refine ⟨rfl, ⟨⟨h.idle.1, h.idle.2⟩, ?_, h.q⟩, rfl⟩
  show setF S.fs n _ = _
  rw [h.fs, setF_one]
theorem One.cut (h : One S n now lasts q) (hr : rightB n = true) {k : Nat} (hk : k ≤ now.length) : (S.cut n k).2 = 0 ∧ One (S.cut n k).1 n (now.take k) (lasts.take k) q := by
  rw [cut_idle h.idle hr h.find hk]
  refine ⟨rfl, ⟨h.idle.1, h.idle.2⟩, ?_, h.q⟩
  show setF S.fs n _ = _
  rw [h.fs, setF_one]
theorem One.cut_bad (h : One S n now lasts q) {k : Int} (hk : k < 0 ∨ (now.length : Int) < k) : (S.cut n k).2 = 1 := by
  unfold Dk.cut
  rw [h.idle.begin, if_neg (by rw [h.idle.2]; simp)]
  by_cases h0 : rightB n = false ∨ k < 0
  · rw [if_pos h0]
  · rw [if_neg h0, h.find]
    show (if (now.length : Int) < k then (S, 1) else _ : Dk × Nat).2 = 1
    rw [if_pos (by rw [not_or] at h0; omega)]
theorem One.read (h : One S n now lasts q) (hr : rightB n = true) (p k : Nat) : S.read n p k = ((now.drop p).take k, 0) := read_idle h.idle hr h.find
theorem One.size (h : One S n now lasts q) (hr : rightB n = true) : S.size n = (now.length, 0) := size_idle h.idle hr h.find
/-- the power goes at the next operation. -/
theorem One.arm (h : One S n now lasts q) (k : Nat) : S.arm k = ({ S with armed := k }, 0) := by
  unfold Dk.arm; rw [if_neg (by omega), if_neg (by rw [h.idle.2]; simp), Int.toNat_natCast]
def Dk.off (S : Dk) : Dk := { S with armed := 0, dead := true }
theorem create_off (S : Dk) (n : List UInt8) : ({ S with armed := 1 } : Dk).create n = (S.off, 6) := by
  have e : ({ S with armed := 1 } : Dk).begin = S.off := by unfold Dk.begin Dk.off; simp
  unfold Dk.create
  rw [e, if_pos (show S.off.dead = true from rfl)]
theorem sync_off (S : Dk) (n : List UInt8) : ({ S with armed := 1 } : Dk).sync n = (S.off, 6) := by
  have e : ({ S with armed := 1 } : Dk).begin = S.off := by unfold Dk.begin Dk.off; simp
  unfold Dk.sync
  rw [e, if_pos (show S.off.dead = true from rfl)]
theorem Sm.off {a b : Nat} (h : Sm S a b) : Sm S.off a b := ⟨h.fl, h.nl, h.li⟩
theorem off_nowOf (S : Dk) (s : List UInt8) : S.off.nowOf s = S.nowOf s := rfl
theorem off_lastsOf (S : Dk) (s : List UInt8) : S.off.lastsOf s = S.lastsOf s := rfl
theorem One.lit (h : One S n now lasts q) (T : List UInt8 → List UInt8) : One (S.off.lit T) n (T n) (T n) q := by
  refine ⟨⟨rfl, rfl⟩, ?_, h.q⟩
  show S.fs.map _ = _
  rw [h.fs]; rfl
end
end Go.Proofs.Ytkfokgjpeaibpaa

/- What the disk's laws share: twin, same, works. -/
namespace Go.Proofs.Ytkfokgjpeaibpaa
open Go.RowKit
set_option maxRecDepth 100000
set_option maxHeartbeats 400000

theorem LsIs.in_ {S : Dk} {ls : List Sec} (h : LsIs S ls) (hli : LooseIn S) : ∀ x ∈ ls, x.page.toNat * 64 < (S.nowOf x.name).length := fun x hx => by
  obtain ⟨s, p⟩ := x
  obtain ⟨f, h1, h2, h3⟩ := hli s _ ((h.2.1 s _ (h.2.2 _ hx)).2 ⟨p, hx, rfl⟩)
  rw [nowOf_some h1]
  omega
/-- nothing but draws. -/
def DrewS (w w' : World) : Prop := ∃ q, w' = w.drewN q
theorem RdB.at_ {w : World} {A : Option Addr} {c : Nat} {l : List UInt8} (h : RdB w (.slice A l.length c) l) : ∃ g off, (0 < l.length → A = some ⟨g, off, none⟩) ∧ l.length ≤ c ∧ c ≤ maxLen ∧ ∀ k (hk : k < l.length), w.cell? ⟨g, off + k, none⟩ = some (.int .u8 l[k].toNat) := by
  obtain ⟨hl, A', c', g, off, e, hn, hc, hA0, hA, hx⟩ := h
  cases e
  refine ⟨g, off, fun h0 => hA (by omega), hn, hc, fun k hk => ?_⟩
  rw [hx k (by omega), List.getElem?_map, List.getElem?_eq_getElem hk]
  rfl
/-- the anchor. -/
def wkD : Dk := ((((newD 4).create an).1.write an 0 [7, 8]).1.sync an).1
theorem wk1 : ((newD 4).create an).2 = 0 := by decide
theorem wk2 : (((newD 4).create an).1.write an 0 [7, 8]).2 = 0 := by decide
theorem wk3 : ((((newD 4).create an).1.write an 0 [7, 8]).1.sync an).2 = 0 := by decide
theorem wk4 : wkD.read an 1 9 = ([8], 0) := by decide
theorem wk5 : wkD.used = 1 := by decide
end Go.Proofs.Ytkfokgjpeaibpaa

/- Lists of whole numbers: append, has. -/
namespace Go.Proofs.Ytkfokgjpeaibpaa
open Go.RowKit
set_option maxRecDepth 100000
set_option maxHeartbeats 400000

theorem Try.infoI : (Try.prog.info? 3).map (fun i => (i.zero, i.size, i.bytes)) = some (some (.int .i64 0), 1, 8) := by kernel_rfl
def OwnI (w : World) (B : Nat) (v : Value) (l : List Int) : Prop := Own w B 1 v l.length (intL l)
def RdI (w : World) (v : Value) (l : List Int) : Prop := Rd w 1 v l.length (intL l)
theorem int_one (l : List Int) : ∀ u ∈ intL l, u.oneCell' = true := by
  intro u hu
  obtain ⟨b, _, rfl⟩ := List.mem_map.1 hu
  rfl
theorem own_appI {w : World} {B : Nat} {v : Value} {l m : List Int} (h : Own w B 1 v (l.length + m.length) (intL l ++ intL m)) : OwnI w B v (l ++ m) := by
  unfold OwnI intL
  rw [List.length_append, List.map_append]
  exact h
theorem wp_appI {ops : Array Oper} {rest : List Oper} {o : Oper} {a : Act} {Q : Exit → Act → World → Prop} {w : World} (hgd : o.guard = none) (s0 x0 : Operand)
    (ho : o.op = .call { callee := .builtin .append, args := #[s0, x0], argTypes := #[92, 92] }) {B : Nat} {v x : Value} {l m : List Int} (hs : a.eval s0 = v) (hown : OwnI w B v l)
    (hx : a.eval x0 = x) (hr : RdI w x m) (hn : l.length + m.length ≤ 1000000000) (hB : B ≤ w.heap.size)
    (h : ∀ v' w', OwnI w' B v' (l ++ m) → w.grownBy w' v.ownBlock → (v'.ownBlock = v.ownBlock ∨ ∃ k, v'.ownBlock = some k ∧ w.heap.size ≤ k) → wpList Try.prog ops Q rest (a.put o.dst v') w') :
    wpList Try.prog ops Q (o :: rest) a w :=
  wp_app w hgd s0 x0 _ ho B 3 _ 1 8 Try.underlying92 Try.infoI rfl (by omega) v _ _ hs hown x _ _ hx hr (int_one m) (by unfold maxLen; omega) (by omega) hB
    fun v' w' h1 h2 h3 => h v' w' (own_appI h1) h2 h3
theorem own_emptyI (w : World) (B : Nat) (hB : B ≤ w.heap.size) : OwnI (w.alloc (.cells #[] 3)) B (.slice (some ⟨w.heap.size, 0, none⟩) 0 0) [] :=
  own_lit w B 1 0 0 #[] _ (0, 0) (.inl (by simp)) rfl (Nat.le_refl _) (Nat.zero_le _) hB
theorem RdI.form {w : World} {v : Value} {l : List Int} (h : RdI w v l) : ∃ A c, v = .slice A l.length c := by
  obtain ⟨_, A, c, _, _, e, _⟩ := h; exact ⟨A, c, e⟩
theorem RdI.ext {w w' : World} {v : Value} {l : List Int} (h : RdI w v l) (hg : w.grownBy w' none) : RdI w' v l := Rd.ext h hg
/-- an operation whose guard lets it run. -/
theorem wpList_on {P : Program} {ops : Array Oper} {rest : List Oper} {o : Oper} {a : Act} {w : World} {Q : Exit → Act → World → Prop} (hw : Region.wanted o (yielded ops a.tmps) = true)
    (h : ∀ K : Act → World → Prop, (∀ a w, wpList P ops Q rest a w → K a w) → o.wp P a w K Q) : wpList P ops Q (o :: rest) a w :=
  wpList_step fun K hK => by rw [if_pos hw]; exact h K hK
/-- append(v, x...) of whole numbers, behind a guard. -/
theorem wp_appI_on {ops : Array Oper} {rest : List Oper} {o : Oper} {a : Act} {Q : Exit → Act → World → Prop} {w : World} (hgd : Region.wanted o (yielded ops a.tmps) = true) (s0 x0 : Operand)
    (ho : o.op = .call { callee := .builtin .append, args := #[s0, x0], argTypes := #[92, 92] }) {B : Nat} {v x : Value} {l m : List Int} (hs : a.eval s0 = v) (hown : OwnI w B v l)
    (hx : a.eval x0 = x) (hr : RdI w x m) (hn : l.length + m.length ≤ 1000000000) (hB : B ≤ w.heap.size)
    (h : ∀ v' w', OwnI w' B v' (l ++ m) → w.grownBy w' v.ownBlock → (v'.ownBlock = v.ownBlock ∨ ∃ k, v'.ownBlock = some k ∧ w.heap.size ≤ k) → wpList Try.prog ops Q rest (a.put o.dst v') w') :
    wpList Try.prog ops Q (o :: rest) a w := by
  refine wpList_on hgd fun K hK => ?_
  obtain ⟨v', w', hrun, h2, h3, h4⟩ := run_app (P := Try.prog) w B 92 o.type 3 _ 1 8 Try.underlying92 Try.infoI rfl (by omega) v _ _ hown x _ _ hr (int_one m) (by unfold maxLen; omega) (by omega) hB
  unfold Oper.wp execOp
  simp only [ho, resolve, invoke, builtin, Sem.run_bind, Sem.run_pure, Result.andThen_ok, List.map_toArray, List.map_cons, List.map_nil, hs, hx, hrun]
  exact hK _ _ (h v' w' (own_appI h2) h3 h4)
end Go.Proofs.Ytkfokgjpeaibpaa
