/-
  disk's Flip, where the power stays and the place is in the file.
-/
import Derived.Test.YtipankjajdpiiaaGreatDj
import Derived.Test.YtipankjajdpiiaaGreatCrc
namespace Go.Proofs.YtipankjajdpiiaaGreat
open Go.RowKit
set_option maxRecDepth 100000
set_option maxHeartbeats 400000

def flipL (l : List UInt8) (at_ : Nat) (m : UInt8) : List UInt8 := l.set at_ (l.getD at_ 0 ^^^ m)
theorem flipL_len (l : List UInt8) (p : Nat) (m : UInt8) : (flipL l p m).length = l.length := by simp [flipL]
def Dk.flip (S : Dk) (n : List UInt8) (p : Nat) (m : UInt8) : Dk := { S with fs := setF S.fs n fun f => { f with now := flipL f.now p m, lasts := flipL f.lasts p m } }
section
variable {w w' : World} {B d : Nat} {o : Own1} {S : Dk} {c : Con}
theorem DI.putNow (h : DI w B o d S c) {f : Fi} (hf : f ∈ S.fs) {k : Nat} (hk : k < f.now.length) :
    ∃ A cp g off, c.nv f.name = .slice A f.now.length cp ∧ A = some ⟨g, off, none⟩ ∧ f.now.length ≤ cp ∧ o g = some (4, f.name) ∧ w.cell? ⟨g, off + k, none⟩ = some (.int .u8 f.now[k].toNat) ∧ w.frozen? ⟨g, off + k, none⟩ = false ∧
      ∀ u : UInt8, ∃ o', DI (w.setCell ⟨g, off + k, none⟩ (.int .u8 u.toNat)) B o' d { S with fs := setF S.fs f.name fun x => { x with now := f.now.set k u } } c ∧ Ch o w o' (w.setCell ⟨g, off + k, none⟩ (.int .u8 u.toNat)) := by
  have hr := h.file f hf
  obtain ⟨A, cp, e⟩ := hr.now.rd.form
  have hn := hr.now
  rw [e] at hn
  obtain ⟨g, off, rfl, hB, _, hle, hc, hfz, hset⟩ := hn.at_ hk
  have hc0 : cp ≠ 0 := by omega
  have hbk : blk (c.nv f.name) = some g := by rw [e]; simp [blk, hc0]
  have ht : o g = some (4, f.name) := (h.tag f hf).now g hbk
  refine ⟨_, cp, g, off, e, rfl, hle, ht, hc, hfz, fun u => ?_⟩
  have hgr : w.grownBy (w.setCell ⟨g, off + k, none⟩ (.int .u8 u.toNat)) (some g) := gr_setCell _ _ _
  have hz : (w.setCell ⟨g, off + k, none⟩ (.int .u8 u.toNat)).heap.size = w.heap.size := by simp [World.setCell]
  have hfar : ∀ i, i ≠ g → (w.setCell ⟨g, off + k, none⟩ (.int .u8 u.toNat)).heap[i]? = w.heap[i]? := fun i hi => heap_far _ _ _ hi
  obtain ⟨o', c', h', ho', hc'⟩ := h.setNow hf (Nat.le_of_eq hz.symm) (fun i _ _ h4 => hfar i (fun e => h4 (by rw [e]; exact ht))) (c.nv f.name) (f.now.set k u)
    (hr.box.same (hfar _ (fun e => by have := (h.tag f hf).file; rw [e, ht] at this; cases this))) (by rw [e]; exact hset u) (fun q hq => .inl ((h.tag f hf).now q hq)) (by rw [List.length_set]; exact hr.small.2.1)
  have ec : c' = c := by
    rw [hc']
    obtain ⟨_, _, _, nv, _⟩ := c
    congr 1
    funext s
    show (if s = f.name then nv f.name else nv s) = nv s
    split
    · next e => rw [e]
    · rfl
  rw [ec] at h'
  refine ⟨o', h', ?_⟩
  refine ⟨hgr.os, hgr.tape, hgr.output, hgr.size, fun i hi h0 => hfar i (fun e => by rw [e, ht] at h0; cases h0), fun i hi h0 => by rw [ho' i hi]; exact h0⟩
theorem DI.putLasts (h : DI w B o d S c) {f : Fi} (hf : f ∈ S.fs) {k : Nat} (hk : k < f.lasts.length) :
    ∃ A cp g off, c.lv f.name = .slice A f.lasts.length cp ∧ A = some ⟨g, off, none⟩ ∧ f.lasts.length ≤ cp ∧ o g = some (5, f.name) ∧ w.cell? ⟨g, off + k, none⟩ = some (.int .u8 f.lasts[k].toNat) ∧ w.frozen? ⟨g, off + k, none⟩ = false ∧
      ∀ u : UInt8, ∃ o', DI (w.setCell ⟨g, off + k, none⟩ (.int .u8 u.toNat)) B o' d { S with fs := setF S.fs f.name fun x => { x with lasts := f.lasts.set k u } } c ∧ Ch o w o' (w.setCell ⟨g, off + k, none⟩ (.int .u8 u.toNat)) := by
  have hr := h.file f hf
  obtain ⟨A, cp, e⟩ := hr.lasts.rd.form
  have hn := hr.lasts
  rw [e] at hn
  obtain ⟨g, off, rfl, hB, _, hle, hc, hfz, hset⟩ := hn.at_ hk
  have hc0 : cp ≠ 0 := by omega
  have hbk : blk (c.lv f.name) = some g := by rw [e]; simp [blk, hc0]
  have ht : o g = some (5, f.name) := (h.tag f hf).lasts g hbk
  refine ⟨_, cp, g, off, e, rfl, hle, ht, hc, hfz, fun u => ?_⟩
  have hgr : w.grownBy (w.setCell ⟨g, off + k, none⟩ (.int .u8 u.toNat)) (some g) := gr_setCell _ _ _
  have hz : (w.setCell ⟨g, off + k, none⟩ (.int .u8 u.toNat)).heap.size = w.heap.size := by simp [World.setCell]
  have hfar : ∀ i, i ≠ g → (w.setCell ⟨g, off + k, none⟩ (.int .u8 u.toNat)).heap[i]? = w.heap[i]? := fun i hi => heap_far _ _ _ hi
  obtain ⟨o', c', h', ho', hc'⟩ := h.setLasts hf (Nat.le_of_eq hz.symm) (fun i _ _ h4 => hfar i (fun e => h4 (by rw [e]; exact ht))) (c.lv f.name) (f.lasts.set k u)
    (hr.box.same (hfar _ (fun e => by have := (h.tag f hf).file; rw [e, ht] at this; cases this))) (by rw [e]; exact hset u) (fun q hq => .inl ((h.tag f hf).lasts q hq)) (by rw [List.length_set]; exact hr.small.2.2)
  have ec : c' = c := by
    rw [hc']
    obtain ⟨_, _, _, _, lv⟩ := c
    congr 1
    funext s
    show (if s = f.name then lv f.name else lv s) = lv s
    split
    · next e => rw [e]
    · rfl
  rw [ec] at h'
  refine ⟨o', h', ?_⟩
  refine ⟨hgr.os, hgr.tape, hgr.output, hgr.size, fun i hi h0 => hfar i (fun e => by rw [e, ht] at h0; cases h0), fun i hi h0 => by rw [ho' i hi]; exact h0⟩
end
set_option maxHeartbeats 2000000 in
theorem flip_alive {w : World} {B d : Nat} {o : Own1} {S : Dk} {c : Con} (h : DI w B o d S c) (hi : S.dead = false) (n : List UInt8) (hn : n.length ≤ 1000000000) (hr : rightB n = true) {f : Fi} (hf : S.find n = some f) (p : Nat) (hp : p < f.now.length) (m : UInt8) (hm : m ≠ 0) :
    Calls Tryz.prog 29 #[.pointer (some ⟨d, 0, none⟩), .string ⟨n.toArray⟩, .int .i64 p, .int .u8 m.toNat] w fun e w' => e = .returned (.int .i64 0) ∧ DOut o w B d (S.flip n p m) w' := by
  have H := Lib.hid h
  have hlk := look_any h
  rw [hi] at hlk
  have HK := Lib.hid hlk
  have hm0 : ((m.toNat : Int) != 0) = true := by
    rw [bne_iff_ne]
    intro e
    exact hm (UInt8.toNat_inj.1 (by simpa using e))
  have HFO := Lib.hid (fun wx (hx : w.grownBy wx none) => find_ok (h.ext hx) hn hr hf)
  obtain ⟨hmem, rfl⟩ := find_some hf
  have HM := Lib.hid hmem
  have hsm := (h.file f hmem).small
  clear hlk h hf hmem
  go_enter Tryz.func29, Tryz.ntmps29
  go_wp2_with fail
  refine HK.out.mono ?_
  rintro e w1 ⟨rfl, rfl⟩
  go_wp2_with fail
  refine (HFO.out _ (gr_refl _ _)).mono ?_
  rintro e w2 ⟨rfl, g2⟩
  have h2 := H.out.ext g2
  have H2 := Lib.hid h2
  have hfc : w2.cell? ⟨c.fb f.name, 0, none⟩ = some (c.nv f.name) := (h2.file f HM.out).box.cell 0
  have hfl : w2.cell? ⟨c.fb f.name, 1, none⟩ = some (c.lv f.name) := (h2.file f HM.out).box.cell 1
  obtain ⟨A, cp, g, off, e1, rfl, hle, ht, hc, hfz, hset⟩ := h2.putNow HM.out hp
  rw [e1] at hfc
  have hpi : (p : Int) < (f.now.length : Int) := by omega
  have hdp : decide ((f.now.length : Int) ≤ (p : Int)) = false := by simp only [decide_eq_false_iff_not]; omega
  obtain ⟨u, hu⟩ : ∃ u, u = f.now[p] ^^^ m := ⟨_, rfl⟩
  have hx : bits .xor .u8 (f.now[p].toNat : Int) (m.toNat : Int) = ((u.toNat : Nat) : Int) := by
    rw [hu]
    rw [u8_xor_nat _ _ f.now[p].toNat_lt m.toNat_lt, UInt8.toNat_xor]
  obtain ⟨o3, h3, ch3⟩ := hset u
  obtain ⟨f1, hf1⟩ : ∃ f1 : Fi, f1 = { f with now := f.now.set p u } := ⟨_, rfl⟩
  have hm1 : f1 ∈ setF S.fs f.name fun x => { x with now := f.now.set p u } := by
    unfold setF
    refine List.mem_map.2 ⟨f, HM.out, ?_⟩
    rw [if_pos rfl, hf1]
  have en : f1.name = f.name := by rw [hf1]
  have el : f1.lasts = f.lasts := by rw [hf1]
  have hl1 : (w2.setCell ⟨g, off + p, none⟩ (.int .u8 u.toNat)).cell? ⟨c.fb f.name, 1, none⟩ = some (c.lv f.name) := by
    have := (h3.file f1 hm1).box.cell 1
    rw [en] at this
    exact this
  have C3 := Lib.hid ch3
  have HM1 := Lib.hid hm1
  have HX : Hid (S.flip f.name p m = { S with fs := setF (setF S.fs f.name fun x => { x with now := f.now.set p u }) f.name fun x => { x with lasts := flipL f.lasts p m } }) := by
    show _ = _
    unfold Dk.flip
    congr 1
    unfold setF
    rw [List.map_map]
    refine List.map_congr_left fun a ha => ?_
    show _ = (if (if a.name = f.name then _ else a : Fi).name = f.name then _ else _)
    by_cases hn : a.name = f.name
    · have := nodup_name H.out.names ha HM.out hn
      subst this
      simp [flipL, hp, hu]
    · simp [hn]
  have G2 := Lib.hid g2
  have HU := Lib.hid hu
  clear hu
  by_cases hpl : p < f.lasts.length
  · obtain ⟨A2, cp2, g', off', e2, rfl, hle2, ht2, hc2, hfz2, hset2⟩ := h3.putLasts hm1 (k := p) (by rw [el]; exact hpl)
    have hgl : f1.lasts[p]'(by rw [el]; exact hpl) = f.lasts[p] := by simp [el]
    rw [hgl] at hc2
    rw [en, el] at e2
    rw [el] at hle2
    rw [e2] at hl1
    have hpl2 : (p : Int) < (f.lasts.length : Int) := by omega
    obtain ⟨u2, hu2⟩ : ∃ u, u = f.lasts[p] ^^^ m := ⟨_, rfl⟩
    have hx2 : bits .xor .u8 (f.lasts[p].toNat : Int) (m.toNat : Int) = ((u2.toNat : Nat) : Int) := by
      rw [hu2, u8_xor_nat _ _ f.lasts[p].toNat_lt m.toNat_lt, UInt8.toNat_xor]
    obtain ⟨o4, h4, ch4⟩ := hset2 u2
    have hfin : Hid (S.flip f.name p m = { S with fs := setF (setF S.fs f.name fun x => { x with now := f.now.set p u }) f1.name fun x => { x with lasts := f1.lasts.set p u2 } }) := by
      show _ = _
      rw [HX.out, en, el, hu2]
      simp [flipL, hpl]
    have H4 := Lib.hid h4
    have C4 := Lib.hid ch4
    clear h2 hset h3 ch3 hm1 g2 hset2 h4 ch4 hu2
    go_wp2_with fail
    go_ret
    rw [hfin.out]
    exact ⟨rfl, o4, c, H4.out, ((Ch.ext G2.out).trans C3.out).trans C4.out⟩
  · obtain ⟨A2, cp2, e2⟩ := (h3.file f1 hm1).lasts.rd.form
    rw [en, el] at e2
    rw [e2] at hl1
    have hpl2 : (f.lasts.length : Int) ≤ (p : Int) := by omega
    have hfin : Hid (S.flip f.name p m = { S with fs := setF S.fs f.name fun x => { x with now := f.now.set p u } }) := by
      show _ = _
      unfold Dk.flip
      rw [setF_congr H.out.names HM.out (g1 := fun f => { f with now := flipL f.now p m, lasts := flipL f.lasts p m }) (g2 := fun x => { x with now := f.now.set p u }) (by simp [flipL, hp, HU.out, List.set_eq_of_length_le (Nat.le_of_not_lt hpl)])]
    have H3 := Lib.hid h3
    clear h2 hset h3 ch3 hm1 g2
    go_wp2_with fail
    go_ret
    rw [hfin.out]
    exact ⟨rfl, o3, c, H3.out, (Ch.ext G2.out).trans C3.out⟩
theorem flip_any {w : World} {B d : Nat} {o : Own1} {S : Dk} {c : Con} (h : DI w B o d S c) (hi : Idle S) (n : List UInt8) (hn : n.length ≤ 1000000000) (hr : rightB n = true) {f : Fi} (hf : S.find n = some f) (p : Nat) (hp : p < f.now.length) (m : UInt8) (hm : m ≠ 0) :
    Calls Tryz.prog 29 #[.pointer (some ⟨d, 0, none⟩), .string ⟨n.toArray⟩, .int .i64 p, .int .u8 m.toNat] w fun e w' => e = .returned (.int .i64 0) ∧ DOut o w B d (S.flip n p m) w' := flip_alive h hi.2 n hn hr hf p hp m hm
end Go.Proofs.YtipankjajdpiiaaGreat

/- disk's Flip at any mask, whatever it is asked. -/
namespace Go.Proofs.YtipankjajdpiiaaGreat
open Go.RowKit
set_option maxRecDepth 100000
set_option maxHeartbeats 400000

def Dk.flipA (S : Dk) (n : List UInt8) (k : Int) (m : UInt8) : Dk × Nat := if S.dead then (S, 6) else if rightB n = false ∨ m = 0 ∨ k < 0 then (S, 1) else match S.find n with | none => (S, 3) | some f => if (f.now.length : Int) ≤ k then (S, 1) else (S.flip n k.toNat m, 0)
theorem flipA_any {w : World} {B d : Nat} {o : Own1} {S : Dk} {c : Con} (h : DI w B o d S c) (n : List UInt8) (hn : n.length ≤ 1000000000) {k : Int} (m : UInt8) (hk : -9223372036854775808 ≤ k ∧ k ≤ 9223372036854775807) :
    Calls Tryz.prog 29 #[.pointer (some ⟨d, 0, none⟩), .string ⟨n.toArray⟩, .int .i64 k, .int .u8 m.toNat] w fun e w' => e = .returned (.int .i64 (S.flipA n k m).2) ∧ DOut o w B d (S.flipA n k m).1 w' := by
  have hlk := look_any h
  cases hd : S.dead with
  | true =>
    rw [hd] at hlk
    have HK := Lib.hid hlk
    have H := Lib.hid h
    rw [show S.flipA n k m = (S, 6) from if_pos hd]
    clear hlk h hd
    go_enter Tryz.func29, Tryz.ntmps29
    go_wp2_with fail
    refine HK.out.mono ?_
    rintro e w1 ⟨rfl, rfl⟩
    go_wp2_with fail
    go_ret
    exact ⟨rfl, o, c, H.out, Ch.refl _ _⟩
  | false =>
    rw [hd] at hlk
    have HK := Lib.hid hlk
    have H := Lib.hid h
    by_cases hbad : rightB n = false ∨ m = 0 ∨ k < 0
    · have HF : Hid (∀ fine : Bool, (rightB n = false ∨ fine = false) → Calls Tryz.prog 74 #[.pointer (some ⟨d, 0, none⟩), .string ⟨n.toArray⟩, .bool fine] w fun e w' => e = .returned (.tuple #[.pointer none, .int .i64 1]) ∧ w.grownBy w' none) := fun fine hb => find_bad d n fine w hn hb
      rw [show S.flipA n k m = (S, 1) from by unfold Dk.flipA; rw [if_neg (by rw [hd]; simp), if_pos hbad]]
      by_cases hm : m = 0
      · subst hm
        have HF2 := Lib.hid (HF.out false (.inr rfl))
        rw [show (((0 : UInt8).toNat : Nat) : Int) = 0 from rfl]
        clear hlk h hd hbad HF
        go_enter Tryz.func29, Tryz.ntmps29
        go_wp2_with fail
        refine HK.out.mono ?_
        rintro e w1 ⟨rfl, rfl⟩
        go_wp2_with fail
        refine HF2.out.mono ?_
        rintro e w2 ⟨rfl, g2⟩
        have G2 := Lib.hid g2
        clear g2 HF2
        go_wp2_with fail
        go_ret
        exact ⟨rfl, o, c, H.out.ext G2.out, Ch.ext G2.out⟩
      · have hm0 : ((m.toNat : Int) != 0) = true := by
          rw [bne_iff_ne]
          intro e
          exact hm (UInt8.toNat_inj.1 (by simpa using e))
        by_cases hk0 : k < 0
        · have hk1 : ¬ 0 ≤ k := by omega
          have hdk : decide (0 ≤ k) = false := decide_eq_false hk1
          have HF2 := Lib.hid (HF.out false (.inr rfl))
          clear hlk h hd hbad HF hm
          go_enter Tryz.func29, Tryz.ntmps29
          go_wp2_with fail
          refine HK.out.mono ?_
          rintro e w1 ⟨rfl, rfl⟩
          go_wp2_with fail
          refine HF2.out.mono ?_
          rintro e w2 ⟨rfl, g2⟩
          have G2 := Lib.hid g2
          clear g2 HF2
          go_wp2_with fail
          go_ret
          exact ⟨rfl, o, c, H.out.ext G2.out, Ch.ext G2.out⟩
        · have hk1 : 0 ≤ k := by omega
          have hdk : decide (0 ≤ k) = true := decide_eq_true hk1
          have HF2 := Lib.hid (HF.out true (by
            rcases hbad with h9 | h9 | h9
            · exact .inl h9
            · exact absurd h9 hm
            · exact absurd h9 hk0))
          clear hlk h hd hbad HF hm
          go_enter Tryz.func29, Tryz.ntmps29
          go_wp2_with fail
          refine HK.out.mono ?_
          rintro e w1 ⟨rfl, rfl⟩
          go_wp2_with fail
          refine HF2.out.mono ?_
          rintro e w2 ⟨rfl, g2⟩
          have G2 := Lib.hid g2
          clear g2 HF2
          go_wp2_with fail
          go_ret
          exact ⟨rfl, o, c, H.out.ext G2.out, Ch.ext G2.out⟩
    · have hr : rightB n = true := by
        cases e : rightB n with
        | true => rfl
        | false => exact absurd (.inl e) hbad
      have hm : m ≠ 0 := fun e => hbad (.inr (.inl e))
      have hk1 : 0 ≤ k := by
        rcases Int.lt_or_le k 0 with h9 | h9
        · exact absurd (.inr (.inr h9)) hbad
        · exact h9
      have hm0 : ((m.toNat : Int) != 0) = true := by
        rw [bne_iff_ne]
        intro e
        exact hm (UInt8.toNat_inj.1 (by simpa using e))
      cases hf : S.find n with
      | none =>
        have HF := Lib.hid (find_no h hn hr hf)
        rw [show S.flipA n k m = (S, 3) from by unfold Dk.flipA; rw [if_neg (by rw [hd]; simp), if_neg hbad, hf]]
        clear hlk h hd hbad hf
        go_enter Tryz.func29, Tryz.ntmps29
        go_wp2_with fail
        refine HK.out.mono ?_
        rintro e w1 ⟨rfl, rfl⟩
        go_wp2_with fail
        refine HF.out.mono ?_
        rintro e w2 ⟨rfl, g2⟩
        have G2 := Lib.hid g2
        clear g2 HF
        go_wp2_with fail
        go_ret
        exact ⟨rfl, o, c, H.out.ext G2.out, Ch.ext G2.out⟩
      | some f =>
        obtain ⟨p, rfl⟩ : ∃ p : Nat, k = (p : Int) := ⟨k.toNat, by omega⟩
        by_cases hp : p < f.now.length
        · rw [show S.flipA n (p : Int) m = (S.flip n p m, 0) from by unfold Dk.flipA; rw [if_neg (by rw [hd]; simp), if_neg hbad, hf]; exact if_neg (by omega)]
          exact flip_alive h hd n hn hr hf p hp m hm
        · rw [show S.flipA n (p : Int) m = (S, 1) from by unfold Dk.flipA; rw [if_neg (by rw [hd]; simp), if_neg hbad, hf]; exact if_pos (by omega)]
          have HFO := Lib.hid (find_ok h hn hr hf)
          obtain ⟨hmem, rfl⟩ := find_some hf
          have HM := Lib.hid hmem
          clear hlk h hd hbad hf hmem
          go_enter Tryz.func29, Tryz.ntmps29
          go_wp2_with fail
          refine HK.out.mono ?_
          rintro e w1 ⟨rfl, rfl⟩
          go_wp2_with fail
          refine HFO.out.mono ?_
          rintro e w2 ⟨rfl, g2⟩
          have h2 := H.out.ext g2
          have hfc : w2.cell? ⟨c.fb f.name, 0, none⟩ = some (c.nv f.name) := (h2.file f HM.out).box.cell 0
          obtain ⟨A, cp, e1⟩ := (h2.file f HM.out).now.rd.form
          rw [e1] at hfc
          have hpi : (f.now.length : Int) ≤ (p : Int) := by omega
          have G2 := Lib.hid g2
          clear g2 HFO h2
          go_wp2_with fail
          go_ret
          exact ⟨rfl, o, c, H.out.ext G2.out, Ch.ext G2.out⟩
end Go.Proofs.YtipankjajdpiiaaGreat
