/-
  pool, any of it: how many frames are full, pinned, dirty; plain.
-/
import Derived.Test.YtkpmadahfmpeiaaGreatGa
import Derived.Test.YtkpmadahfmpeiaaGreatG5
import Derived.Test.YtkpmadahfmpeiaaGreatGg
namespace Go.Proofs.YtkpmadahfmpeiaaGreat
set_option maxRecDepth 100000

def pinned (f : Fr) : Bool := decide (0 < f.pins)
structure HoldI (L n : Nat) (Q : Pm) : Prop where
  len : Q.fr.length = L
  hand : Q.hand < L
  low : ∀ (i : Nat) (f : Fr), Q.fr[i]? = some f → f.full = false → f.pins = 0 ∧ f.dirty = false
  sum : (Q.fr.map Fr.pins).sum = n
  mf : heldN Fr.full Q.fr ≤ Q.mf ∧ Q.mf ≤ L
  mp : heldN pinned Q.fr ≤ Q.mp ∧ Q.mp ≤ Q.mf
/-- frames that are as they were, but for what the hand and a write back turn. -/
structure Tame (fr fr' : List Fr) : Prop where
  sg : fr'.map sig = fr.map sig
  dirt : ∀ (i : Nat) (f f' : Fr), fr[i]? = some f → fr'[i]? = some f' → f'.dirty = true → f.dirty = true
theorem Tame.refl (fr : List Fr) : Tame fr fr := ⟨rfl, fun i f f' h h' hd => by rw [h] at h'; cases h'; exact hd⟩
theorem Tame.trans {a b c : List Fr} (h : Tame a b) (k : Tame b c) : Tame a c := ⟨k.sg.trans h.sg, fun i f f' hf hf' hd => by
  obtain ⟨g, g1, -⟩ := sig_at h.sg hf
  exact h.dirt i f g hf g1 (k.dirt i g f' g1 hf' hd)⟩
theorem Tame.set {fr : List Fr} {i : Nat} {f x : Fr} (hf : fr[i]? = some f) (e : sig x = sig f) (hd : x.dirty = true → f.dirty = true) : Tame fr (fr.set i x) := ⟨set_sig hf e, fun j g g' hg hg' h => by
  rcases set_cases hf hg' with ⟨rfl, rfl⟩ | ⟨hj, h3⟩
  · rw [hf] at hg; cases hg; exact hd h
  · rw [hg] at h3; cases h3; exact h⟩
theorem clock_tame : ∀ (t : Nat) (fr : List Fr) (i : Nat), Tame fr (clock t fr i).1
  | 0, fr, i => Tame.refl fr
  | t + 1, fr, i => by
    cases hf : fr[i]? with
    | none =>
      have : clock (t + 1) fr i = (fr, i) := by unfold clock; rw [hf]
      rw [this]; exact Tame.refl fr
    | some f =>
      rw [clock_succ hf]
      split
      · exact clock_tame t _ _
      · split
        · exact (Tame.set (x := f.rest) hf rfl fun h => h).trans (clock_tame t _ _)
        · exact Tame.refl fr
theorem putL_tame {n : List UInt8} : ∀ (l : List Nat) (fr : List Fr) (S : Dk), Tame fr (putL n l fr S).fr
  | [], fr, S => Tame.refl fr
  | i :: l, fr, S => by
    cases hf : fr[i]? with
    | none =>
      have : putL n (i :: l) fr S = ⟨fr, S, 0⟩ := by
        show (match fr[i]? with | none => _ | some f => _) = _
        rw [hf]
      rw [this]; exact Tame.refl fr
    | some f =>
      rw [putL_cons hf]
      split
      · exact Tame.refl fr
      · exact (Tame.set (x := f.clean) hf rfl fun h => by cases h).trans (putL_tame l _ _)
theorem backP_tame (fr : List Fr) (S : Dk) (i : Nat) : Tame fr (backP fr S i).fr := by
  unfold backP
  split
  · exact Tame.refl fr
  · split
    · exact Tame.refl fr
    · exact putL_tame _ _ _
theorem take_tame (Q : Pm) (S : Dk) : Tame Q.fr (Q.take S).Q.fr ∨ ∃ (fr1 : List Fr) (i : Nat) (f : Fr), Tame Q.fr fr1 ∧ fr1[i]? = some f ∧ f.pins = 0 ∧ (Q.take S).Q.fr = fr1.set i fr0 := by
  cases hfr : Q.free with
  | some i =>
    have e : Q.take S = ⟨i, 0, Q, S⟩ := by unfold Pm.take; rw [hfr]
    rw [e]; exact .inl (Tame.refl _)
  | none =>
    have e : Q.take S = takeC Q S (clock (2 * Q.fr.length) Q.fr Q.hand).1 (clock (2 * Q.fr.length) Q.fr Q.hand).2 := by unfold Pm.take; rw [hfr]
    have h1 := clock_tame (2 * Q.fr.length) Q.fr Q.hand
    rw [e]
    obtain ⟨X, hX⟩ : ∃ X, X = clock (2 * Q.fr.length) Q.fr Q.hand := ⟨_, rfl⟩
    rw [← hX] at h1 ⊢
    obtain ⟨f1, i⟩ := X
    simp only [] at h1 ⊢
    have hb := h1.trans (backP_tame f1 S i)
    unfold takeC
    cases hf : f1[i]? with
    | none => exact .inl (Tame.refl _)
    | some f =>
      dsimp only
      split
      · exact .inl h1
      · next hp =>
        have hp0 : f.pins = 0 := by rw [not_or] at hp; omega
        split
        · split
          · exact .inl hb
          · obtain ⟨g, g1, -, -, -, -, g6, -⟩ := sig_at (backP_sig f1 S i) hf
            exact .inr ⟨_, i, g, hb, g1, by rw [g6]; exact hp0, rfl⟩
        · exact .inr ⟨_, i, f, h1, hf, hp0, rfl⟩
theorem take_hand (Q : Pm) (S : Dk) (hh : Q.hand < Q.fr.length) : (Q.take S).Q.hand < Q.fr.length := by
  cases hfr : Q.free with
  | some i =>
    have e : Q.take S = ⟨i, 0, Q, S⟩ := by unfold Pm.take; rw [hfr]
    rw [e]; exact hh
  | none =>
    have e : Q.take S = takeC Q S (clock (2 * Q.fr.length) Q.fr Q.hand).1 (clock (2 * Q.fr.length) Q.fr Q.hand).2 := by unfold Pm.take; rw [hfr]
    have h1 := clock_len (2 * Q.fr.length) Q.fr Q.hand
    have h2 := clock_lt (2 * Q.fr.length) Q.fr Q.hand hh
    rw [e]
    obtain ⟨X, hX⟩ : ∃ X, X = clock (2 * Q.fr.length) Q.fr Q.hand := ⟨_, rfl⟩
    rw [← hX] at h1 h2 ⊢
    obtain ⟨f1, i⟩ := X
    simp only [] at h1 h2 ⊢
    have hm : (i + 1) % f1.length < Q.fr.length := by rw [h1]; exact Nat.mod_lt _ (by omega)
    unfold takeC
    cases hf : f1[i]? with
    | none => exact hh
    | some f =>
      dsimp only
      split
      · exact hh
      · split
        · split
          · exact h2
          · exact hm
        · exact hm
theorem sum_set : ∀ {fr : List Fr} {i : Nat} {x y : Fr}, fr[i]? = some x → ((fr.set i y).map Fr.pins).sum + x.pins = (fr.map Fr.pins).sum + y.pins
  | [], _, _, _, h => by simp at h
  | a :: l, 0, x, y, h => by
    have : a = x := by simpa using h
    subst this
    simp; omega
  | a :: l, i + 1, x, y, h => by
    have ih := sum_set (fr := l) (i := i) (x := x) (y := y) (by simpa using h)
    simp only [List.set_cons_succ, List.map_cons, List.sum_cons]
    omega
theorem heldN_mono {p r : Fr → Bool} {fr : List Fr} (h : ∀ f ∈ fr, p f = true → r f = true) : heldN p fr ≤ heldN r fr := by
  unfold heldN
  induction fr with
  | nil => simp
  | cons a l ih =>
    have ih' := ih fun f hf => h f (by simp [hf])
    have h1 := h a (by simp)
    simp only [List.filter_cons]
    by_cases ha : p a = true
    · rw [if_pos ha, if_pos (h1 ha), List.length_cons, List.length_cons]; omega
    · rw [if_neg ha]
      split
      · rw [List.length_cons]; omega
      · exact ih'
theorem heldN_map_sig {p : Fr → Bool} {r : Bool × List UInt8 × Int × List UInt8 × Nat × Value → Bool} (hp : ∀ f, p f = r (sig f)) {fr fr' : List Fr} (e : fr'.map sig = fr.map sig) : heldN p fr' = heldN p fr := by
  have h : ∀ l : List Fr, heldN p l = ((l.map sig).filter r).length := fun l => by
    unfold heldN
    induction l with
    | nil => rfl
    | cons a l ih =>
      simp only [List.filter_cons, List.map_cons]
      rw [hp a]
      split
      · rw [List.length_cons, List.length_cons, ih]
      · exact ih
  rw [h, h, e]
theorem pinned_le_sum (fr : List Fr) : heldN pinned fr ≤ (fr.map Fr.pins).sum ∧ (heldN pinned fr = 0 ↔ (fr.map Fr.pins).sum = 0) := by
  unfold heldN
  induction fr with
  | nil => simp
  | cons a l ih =>
    simp only [List.filter_cons, List.map_cons, List.sum_cons]
    by_cases ha : pinned a = true
    · have : 0 < a.pins := by unfold pinned at ha; simpa using ha
      rw [if_pos ha, List.length_cons]
      omega
    · have : a.pins = 0 := by unfold pinned at ha; simpa using ha
      rw [if_neg ha]
      omega
section
variable {L n : Nat} {Q : Pm} {S : Dk}
theorem HoldI.low_mem (h : HoldI L n Q) {f : Fr} (hf : f ∈ Q.fr) (h0 : f.full = false) : f.pins = 0 ∧ f.dirty = false := by
  obtain ⟨i, hi, e⟩ := List.mem_iff_getElem.1 hf
  exact h.low i f (by rw [List.getElem?_eq_getElem hi, e]) h0
theorem HoldI.told (h : HoldI L n Q) : heldN Fr.full Q.fr ≤ L ∧ heldN pinned Q.fr ≤ heldN Fr.full Q.fr ∧ heldN Fr.dirty Q.fr ≤ heldN Fr.full Q.fr ∧ heldN pinned Q.fr ≤ n ∧ (heldN pinned Q.fr = 0 ↔ n = 0) := by
  have := pinned_le_sum Q.fr
  rw [h.sum] at this
  refine ⟨by rw [← h.len]; exact heldN_le _ _, heldN_mono fun f hf hp => ?_, heldN_mono fun f hf hp => ?_, this⟩
  · cases hq : f.full with
    | true => rfl
    | false =>
      have := (h.low_mem hf hq).1
      unfold pinned at hp
      simp [this] at hp
  · cases hq : f.full with
    | true => rfl
    | false =>
      have := (h.low_mem hf hq).2
      rw [this] at hp; cases hp
theorem HoldI.tame (h : HoldI L n Q) {fr' : List Fr} (ht : Tame Q.fr fr') : HoldI L n { Q with fr := fr' } := by
  have e1 : heldN Fr.full fr' = heldN Fr.full Q.fr := heldN_map_sig (r := fun t => t.1) (fun f => rfl) ht.sg
  have e2 : heldN pinned fr' = heldN pinned Q.fr := heldN_map_sig (r := fun t => decide (0 < t.2.2.2.2.1)) (fun f => rfl) ht.sg
  have e3 : (fr'.map Fr.pins).sum = (Q.fr.map Fr.pins).sum := by
    have : ∀ l : List Fr, l.map Fr.pins = (l.map sig).map fun t => t.2.2.2.2.1 := fun l => by rw [List.map_map]; rfl
    rw [this, this, ht.sg]
  refine ⟨(len_sig ht.sg).trans h.len, h.hand, fun i f hf h0 => ?_, e3.trans h.sum, ?_, ?_⟩
  · obtain ⟨g, g1, g2, g3, g4, g5, g6, -⟩ := sig_at ht.sg.symm hf
    have := h.low i g g1 (by rw [g2]; exact h0)
    refine ⟨by rw [← g6]; exact this.1, ?_⟩
    cases hd : f.dirty with
    | false => rfl
    | true =>
      have := ht.dirt i g f g1 hf hd
      rw [(h.low i g g1 (by rw [g2]; exact h0)).2] at this; cases this
  · show heldN Fr.full fr' ≤ Q.mf ∧ _
    rw [e1]; exact h.mf
  · show heldN pinned fr' ≤ Q.mp ∧ _
    rw [e2]; exact h.mp
theorem HoldI.hnd (h : HoldI L n Q) {k : Nat} (hk : k < L) : HoldI L n { Q with hand := k } := ⟨h.len, hk, h.low, h.sum, h.mf, h.mp⟩
/-- a frame is another one. -/
theorem HoldI.set (h : HoldI L n Q) {i : Nat} {f x : Fr} (hf : Q.fr[i]? = some f) (hlow : x.full = false → x.pins = 0 ∧ x.dirty = false) (h1 : x.full = true → f.full = true) (h2 : 0 < x.pins → 0 < f.pins) {n' : Nat} (hn : n' + f.pins = n + x.pins) : HoldI L n' { Q with fr := Q.fr.set i x } := by
  have s := sum_set (y := x) hf
  rw [h.sum] at s
  have a1 := heldN_set Fr.full (y := x) hf
  have a2 := heldN_set pinned (y := x) hf
  have b1 : (if x.full = true then 1 else 0) ≤ (if f.full = true then 1 else 0) := by
    by_cases hx : x.full = true
    · rw [if_pos hx, if_pos (h1 hx)]; exact Nat.le_refl _
    · rw [if_neg hx]; exact Nat.zero_le _
  have b2 : (if pinned x = true then 1 else 0) ≤ (if pinned f = true then 1 else 0) := by
    unfold pinned
    by_cases hx : 0 < x.pins
    · rw [decide_eq_true hx, decide_eq_true (h2 hx)]; exact Nat.le_refl _
    · rw [decide_eq_false hx]; exact Nat.zero_le _
  have m1 := h.mf
  have m2 := h.mp
  refine ⟨by show (Q.fr.set i x).length = L; rw [List.length_set]; exact h.len, h.hand, fun j g hg h0 => ?_, by show ((Q.fr.set i x).map Fr.pins).sum = n'; omega, ⟨by show heldN Fr.full (Q.fr.set i x) ≤ Q.mf; omega, m1.2⟩, ⟨by show heldN pinned (Q.fr.set i x) ≤ Q.mp; omega, m2.2⟩⟩
  rcases set_cases hf hg with ⟨_, rfl⟩ | ⟨_, h3⟩
  · exact hlow h0
  · exact h.low j g h3 h0
/-- .. and the peaks are kept. -/
theorem HoldI.setNoted (h : HoldI L n Q) {i : Nat} {f x : Fr} (hf : Q.fr[i]? = some f) (hlow : x.full = false → x.pins = 0 ∧ x.dirty = false) {n' : Nat} (hn : n' + f.pins = n + x.pins) : HoldI L n' ({ Q with fr := Q.fr.set i x } : Pm).noted := by
  have s := sum_set (y := x) hf
  rw [h.sum] at s
  have hl : (Q.fr.set i x).length = L := by rw [List.length_set]; exact h.len
  have a1 := heldN_le Fr.full (Q.fr.set i x)
  rw [hl] at a1
  have hlw : ∀ (j : Nat) (g : Fr), (Q.fr.set i x)[j]? = some g → g.full = false → g.pins = 0 ∧ g.dirty = false := fun j g hg h0 => by
    rcases set_cases hf hg with ⟨_, rfl⟩ | ⟨_, h3⟩
    · exact hlow h0
    · exact h.low j g h3 h0
  have a2 : heldN pinned (Q.fr.set i x) ≤ heldN Fr.full (Q.fr.set i x) := heldN_mono fun g hg hp => by
    obtain ⟨j, hj, e⟩ := List.mem_iff_getElem.1 hg
    cases hq : g.full with
    | true => rfl
    | false =>
      have := (hlw j g (by rw [List.getElem?_eq_getElem hj, e]) hq).1
      unfold pinned at hp
      simp [this] at hp
  have m1 := h.mf
  have m2 := h.mp
  exact ⟨hl, h.hand, hlw, by show ((Q.fr.set i x).map Fr.pins).sum = n'; omega, ⟨Nat.le_max_right _ _, Nat.max_le.2 ⟨m1.2, a1⟩⟩, ⟨Nat.le_max_right _ _, Nat.max_le.2 ⟨Nat.le_trans m2.2 (Nat.le_max_left _ _), Nat.le_trans a2 (Nat.le_max_right _ _)⟩⟩⟩
theorem HoldI.take (h : HoldI L n Q) (S : Dk) : HoldI L n (Q.take S).Q ∧ ((Q.take S).e = 0 → ∃ f, (Q.take S).Q.fr[(Q.take S).i]? = some f ∧ f.full = false ∧ f.pins = 0) := by
  obtain ⟨t1, t2, -, t4, t5⟩ := take_gen Q S (by rw [h.len]; exact h.hand)
  have hh : (Q.take S).Q.hand < L := by
    rw [← h.len]
    exact take_hand Q S (by rw [h.len]; exact h.hand)
  have key : HoldI L n { Q with fr := (Q.take S).Q.fr } := by
    rcases take_tame Q S with ht | ⟨fr1, i, f, ht, hf, hp, e⟩
    · exact h.tame ht
    · rw [e]
      have h1 := h.tame ht
      exact h1.set (i := i) (f := f) (x := fr0) hf (fun _ => ⟨rfl, rfl⟩) (fun e => by cases e) (fun e => by cases e) (by rw [hp]; rfl)
  have hq : HoldI L n (Q.take S).Q := ⟨key.len, hh, key.low, key.sum, by rw [t4]; exact key.mf, by rw [t5, t4]; exact key.mp⟩
  refine ⟨hq, fun e => ?_⟩
  obtain ⟨f, f1, f2⟩ := t2 e
  exact ⟨f, f1, f2, (hq.low _ f f1 f2).1⟩
theorem HoldI.fill (h : HoldI L n Q) {i : Nat} {f : Fr} (hf : Q.fr[i]? = some f) (hp : f.pins = 0) {x : Fr} (hx : x.pins = 0) : HoldI L n (Q.fill i x) :=
  h.setNoted (x := { x with full := true }) hf (fun e => by cases e) (by show n + f.pins = n + x.pins; omega)
/-- a page that comes. -/
theorem HoldI.bring (h : HoldI L n Q) (S : Dk) (nm : List UInt8) (k : Int) (v : Value) : HoldI L n (Q.bring S nm k v).Q ∧ ((Q.bring S nm k v).e = 0 → ∃ f, (Q.bring S nm k v).Q.fr[(Q.bring S nm k v).i]? = some f ∧ f.full = true) := by
  refine ⟨?_, (bring_gen Q S nm k v (by rw [h.len]; exact h.hand)).1⟩
  unfold Pm.bring
  split
  · exact h
  · split
    · exact h
    · split
      · exact h
      · split
        · next i ha =>
          obtain ⟨x, x1, x2, -⟩ := at_some ha
          show HoldI L n { Q with fr := Q.fr.modify i Fr.usedUp }
          rw [modify_eq x1]
          exact h.set (x := x.usedUp) x1 (fun e => Bool.noConfusion (x2.symm.trans e)) (fun _ => x2) (fun e => e) rfl
        · unfold bringR
          obtain ⟨t1, t2⟩ := h.take S
          split
          · exact h
          · split
            · exact t1
            · next h5 =>
              obtain ⟨f, f1, f2, f3⟩ := t2 (by simpa using h5)
              exact t1.fill f1 f3 rfl
theorem HoldI.read (h : HoldI L n Q) (S : Dk) (nm : List UInt8) (k : Int) (v : Value) : HoldI L n (Q.read S nm k v).Q := by
  have := (h.bring S nm k v).1
  unfold Pm.read
  split
  · exact this
  · exact this
theorem HoldI.pin (h : HoldI L n Q) (S : Dk) (nm : List UInt8) (k : Int) (v : Value) : HoldI L (if (Q.pin S nm k v).e = 0 then n + 1 else n) (Q.pin S nm k v).Q := by
  obtain ⟨h1, h2⟩ := h.bring S nm k v
  by_cases he : (Q.bring S nm k v).e = 0
  · obtain ⟨f, f1, f2⟩ := h2 he
    have e : Q.pin S nm k v = ⟨(Q.bring S nm k v).Q.bytes (Q.bring S nm k v).i, 0, (Q.bring S nm k v).Q.pinUp (Q.bring S nm k v).i, (Q.bring S nm k v).S⟩ := by
      unfold Pm.pin; exact if_neg (by rw [he]; simp)
    rw [e, if_pos rfl]
    show HoldI L (n + 1) ({ (Q.bring S nm k v).Q with fr := (Q.bring S nm k v).Q.fr.modify _ fun f => { f with pins := f.pins + 1 } } : Pm).noted
    rw [modify_eq f1]
    exact h1.setNoted (x := { f with pins := f.pins + 1 }) f1 (fun e => Bool.noConfusion (f2.symm.trans e)) (by show n + 1 + f.pins = n + (f.pins + 1); omega)
  · have e : Q.pin S nm k v = ⟨[], (Q.bring S nm k v).e, (Q.bring S nm k v).Q, (Q.bring S nm k v).S⟩ := by
      unfold Pm.pin; exact if_pos he
    rw [e, if_neg he]
    exact h1
theorem HoldI.unpin (h : HoldI L n Q) (nm : List UInt8) (k : Int) : HoldI L (if (Q.unpin nm k).2 = 0 then n - 1 else n) (Q.unpin nm k).1 ∧ ((Q.unpin nm k).2 = 0 → 1 ≤ n) := by
  unfold Pm.unpin
  split
  · exact ⟨by rw [if_neg (by simp)]; exact h, fun e => by cases e⟩
  · next i ha =>
    obtain ⟨x, x1, x2, -⟩ := at_some ha
    have hpa : Q.pinsAt i = x.pins := by unfold Pm.pinsAt; rw [x1]
    split
    · exact ⟨by rw [if_neg (by simp)]; exact h, fun e => by cases e⟩
    · next hp =>
      rw [hpa] at hp
      have hs := sum_set (y := fr0) x1
      rw [h.sum] at hs
      have h0 : fr0.pins = 0 := rfl
      refine ⟨?_, fun _ => by omega⟩
      rw [if_pos rfl]
      show HoldI L (n - 1) { Q with fr := Q.fr.modify i fun f => { f with pins := f.pins - 1 } }
      rw [modify_eq x1]
      exact h.set (x := { x with pins := x.pins - 1 }) x1 (fun e => Bool.noConfusion (x2.symm.trans e)) (fun _ => x2) (fun e => by
        have e2 : 0 < x.pins - 1 := e
        omega) (by show n - 1 + x.pins = n + (x.pins - 1); omega)
theorem HoldI.write (h : HoldI L n Q) (S : Dk) (nm : List UInt8) (k : Int) (b : List UInt8) (v : Value) : HoldI L n (Q.write S nm k b v).Q := by
  have hw : ∀ {Q : Pm} {i : Nat} {f : Fr}, HoldI L n Q → Q.fr[i]? = some f → f.full = true → HoldI L n (Q.wrote i b v) := fun {Q i f} h hf hf2 => by
    show HoldI L n { Q with fr := Q.fr.modify i fun f => { f with b := b, bv := v, dirty := true, used := true } }
    rw [modify_eq hf]
    exact h.set (x := { f with b := b, bv := v, dirty := true, used := true }) hf (fun e => Bool.noConfusion (hf2.symm.trans e)) (fun _ => hf2) (fun e => e) rfl
  unfold Pm.write
  split
  · exact h
  · split
    · exact h
    · split
      · exact h
      · split
        · next i ha =>
          obtain ⟨x, x1, x2, -⟩ := at_some ha
          exact hw h x1 x2
        · obtain ⟨t1, t2⟩ := h.take S
          split
          · exact t1
          · next h5 =>
            obtain ⟨f, f1, f2, f3⟩ := t2 (by simpa using h5)
            exact hw (t1.fill f1 f3 rfl) (List.getElem?_set_self (List.getElem?_eq_some_iff.1 f1).1) rfl
theorem HoldI.flush (h : HoldI L n Q) (S : Dk) (nm : List UInt8) : HoldI L n (Q.flush S nm).Q := by
  unfold Pm.flush
  split
  · exact h
  · split
    · exact h.tame (putL_tame _ _ _)
    · exact h.tame (putL_tame _ _ _)
theorem sum_drop (nm : List UInt8) : ∀ {fr : List Fr}, (∀ f ∈ fr, ofN nm f = true → f.pins = 0) → ((fr.map fun f => if ofN nm f then fr0 else f).map Fr.pins).sum = (fr.map Fr.pins).sum ∧ heldN pinned (fr.map fun f => if ofN nm f then fr0 else f) = heldN pinned fr ∧ heldN Fr.full (fr.map fun f => if ofN nm f then fr0 else f) ≤ heldN Fr.full fr
  | [], _ => by simp [heldN]
  | a :: l, h => by
    obtain ⟨i1, i2, i3⟩ := sum_drop nm (fr := l) fun f hf => h f (by simp [hf])
    have h1 := h a (by simp)
    unfold heldN at *
    by_cases ha : ofN nm a = true
    · have h0 := h1 ha
      have hp : pinned a = false := by unfold pinned; rw [h0]; rfl
      have hf : a.full = true := by unfold ofN at ha; simp at ha; exact ha.1
      simp only [List.map_cons, List.sum_cons, List.filter_cons, ha, if_true, hp, hf]
      rw [show fr0.pins = 0 from rfl, h0, show pinned fr0 = false from rfl, show fr0.full = false from rfl, i1]
      refine ⟨rfl, ?_, ?_⟩
      · simpa using i2
      · rw [List.length_cons]
        have : ((l.map fun f => if ofN nm f then fr0 else f).filter Fr.full).length ≤ (l.filter Fr.full).length := i3
        simpa using Nat.le_succ_of_le this
    · have ha2 : ofN nm a = false := by simpa using ha
      simp only [List.map_cons, List.sum_cons, List.filter_cons, ha2, Bool.false_eq_true, if_false]
      refine ⟨by rw [i1], ?_, ?_⟩
      · split
        · rw [List.length_cons, List.length_cons, i2]
        · exact i2
      · split
        · rw [List.length_cons, List.length_cons]; omega
        · exact i3
theorem HoldI.drop (h : HoldI L n Q) (S : Dk) (nm : List UInt8) : HoldI L n (Q.drop S nm).Q := by
  unfold Pm.drop
  split
  · exact h
  · next hn =>
    have hp : ∀ f ∈ Q.fr, ofN nm f = true → f.pins = 0 := fun f hf ho => by
      cases e : f.pins with
      | zero => rfl
      | succ m =>
        exact absurd (List.any_eq_true.2 ⟨f, hf, by rw [ho, e]; rfl⟩) hn
    obtain ⟨s1, s2, s3⟩ := sum_drop nm hp
    refine ⟨by show (Q.fr.map _).length = L; rw [List.length_map]; exact h.len, h.hand, fun i f hf h0 => ?_, s1.trans h.sum, ⟨Nat.le_trans s3 h.mf.1, h.mf.2⟩, ⟨by show heldN pinned _ ≤ Q.mp; rw [s2]; exact h.mp.1, h.mp.2⟩⟩
    have hf2 : (Q.fr.map fun f => if ofN nm f then fr0 else f)[i]? = some f := hf
    rw [List.getElem?_map] at hf2
    cases hq : Q.fr[i]? with
    | none => rw [hq] at hf2; cases hf2
    | some g =>
      rw [hq] at hf2
      have e : (if ofN nm g then fr0 else g) = f := by simpa using hf2
      by_cases hg : ofN nm g = true
      · rw [if_pos hg] at e; subst e; exact ⟨rfl, rfl⟩
      · rw [if_neg hg] at e; subst e; exact h.low i g hq h0
theorem HoldI.new (L : Nat) (h : 1 ≤ L) : HoldI L 0 (pm0 L) := by
  have hp : ∀ f ∈ (pm0 L).fr, f = fr0 := fun f hf => (List.mem_replicate.1 hf).2
  have h1 : heldN Fr.full (pm0 L).fr = 0 := by
    unfold heldN
    rw [List.filter_eq_nil_iff.2 fun f hf => by rw [hp f hf]; simp [fr0]]; rfl
  have h2 : heldN pinned (pm0 L).fr = 0 := by
    unfold heldN
    rw [List.filter_eq_nil_iff.2 fun f hf => by rw [hp f hf]; simp [fr0, pinned]]; rfl
  refine ⟨List.length_replicate .., h, fun i f hf _ => ?_, ?_, ⟨by rw [h1]; exact Nat.le_refl _, Nat.zero_le _⟩, ⟨by rw [h2]; exact Nat.le_refl _, Nat.le_refl _⟩⟩
  · rw [hp f (List.mem_of_getElem? hf)]; exact ⟨rfl, rfl⟩
  · show ((List.replicate L fr0).map Fr.pins).sum = 0
    rw [List.map_replicate, show fr0.pins = 0 from rfl]
    simp
end
end Go.Proofs.YtkpmadahfmpeiaaGreat
