/-
  disk's Flip, where the power stays and the place is in the file.
-/
import Derived.Test.YtipankjajdpiiaaGreatDj
import Derived.Test.YtipankjajdpiiaaGreatCrc
import Derived.Test.YtipankjajdpiiaaGreatJP
namespace Go.Proofs.YtipankjajdpiiaaGreat
open Go.RowKit
set_option maxRecDepth 100000
set_option maxHeartbeats 400000

def flipL (l : List UInt8) (at_ : Nat) (m : UInt8) : List UInt8 := l.set at_ (l.getD at_ 0 ^^^ m)
theorem flipL_len (l : List UInt8) (p : Nat) (m : UInt8) : (flipL l p m).length = l.length := by simp [flipL]
def Dk.flip (S : Dk) (n : List UInt8) (p : Nat) (m : UInt8) : Dk := { S with fs := setF S.fs n fun f => { f with now := flipL f.now p m, lasts := flipL f.lasts p m } }
section
variable {w w' : World} {B d : Nat} {o : Own1} {S : Dk} {c : Con}
theorem DI.putNow (h : DI w B o d S c) {f : Fi} (hf : f ∈ S.fs) {k : Nat} (hk : k < f.now.length) :
    ∃ A cp g off, c.nv f.name = .slice A f.now.length cp ∧ A = some ⟨g, off, none⟩ ∧ f.now.length ≤ cp ∧ o g = some (4, f.name) ∧ w.cell? ⟨g, off + k, none⟩ = some (.int .u8 f.now[k].toNat) ∧ w.frozen? ⟨g, off + k, none⟩ = false ∧
      ∀ u : UInt8, ∃ o', DI (w.setCell ⟨g, off + k, none⟩ (.int .u8 u.toNat)) B o' d { S with fs := setF S.fs f.name fun x => { x with now := f.now.set k u } } c ∧ Ch o w o' (w.setCell ⟨g, off + k, none⟩ (.int .u8 u.toNat)) := by
  have hr := h.file f hf
  obtain ⟨A, cp, e⟩ := hr.now.rd.form
  have hn := hr.now
  rw [e] at hn
  obtain ⟨g, off, rfl, hB, _, hle, hc, hfz, hset⟩ := hn.at_ hk
  have hc0 : cp ≠ 0 := by omega
  have hbk : blk (c.nv f.name) = some g := by rw [e]; simp [blk, hc0]
  have ht : o g = some (4, f.name) := (h.tag f hf).now g hbk
  refine ⟨_, cp, g, off, e, rfl, hle, ht, hc, hfz, fun u => ?_⟩
  have hgr : w.grownBy (w.setCell ⟨g, off + k, none⟩ (.int .u8 u.toNat)) (some g) := gr_setCell _ _ _
  have hz : (w.setCell ⟨g, off + k, none⟩ (.int .u8 u.toNat)).heap.size = w.heap.size := by simp [World.setCell]
  have hfar : ∀ i, i ≠ g → (w.setCell ⟨g, off + k, none⟩ (.int .u8 u.toNat)).heap[i]? = w.heap[i]? := fun i hi => heap_far _ _ _ hi
  obtain ⟨o', c', h', ho', hc'⟩ := h.setNow hf (Nat.le_of_eq hz.symm) (fun i _ _ h4 => hfar i (fun e => h4 (by rw [e]; exact ht))) (c.nv f.name) (f.now.set k u)
    (hr.box.same (hfar _ (fun e => by have := (h.tag f hf).file; rw [e, ht] at this; cases this))) (by rw [e]; exact hset u) (fun q hq => .inl ((h.tag f hf).now q hq)) (by rw [List.length_set]; exact hr.small.2.1)
  have ec : c' = c := by
    rw [hc']
    obtain ⟨_, _, _, nv, _⟩ := c
    congr 1
    funext s
    show (if s = f.name then nv f.name else nv s) = nv s
    split
    · next e => rw [e]
    · rfl
  rw [ec] at h'
  refine ⟨o', h', ?_⟩
  refine ⟨hgr.os, hgr.tape, hgr.output, hgr.size, fun i hi h0 => hfar i (fun e => by rw [e, ht] at h0; cases h0), fun i hi h0 => by rw [ho' i hi]; exact h0⟩
theorem DI.putLasts (h : DI w B o d S c) {f : Fi} (hf : f ∈ S.fs) {k : Nat} (hk : k < f.lasts.length) :
    ∃ A cp g off, c.lv f.name = .slice A f.lasts.length cp ∧ A = some ⟨g, off, none⟩ ∧ f.lasts.length ≤ cp ∧ o g = some (5, f.name) ∧ w.cell? ⟨g, off + k, none⟩ = some (.int .u8 f.lasts[k].toNat) ∧ w.frozen? ⟨g, off + k, none⟩ = false ∧
      ∀ u : UInt8, ∃ o', DI (w.setCell ⟨g, off + k, none⟩ (.int .u8 u.toNat)) B o' d { S with fs := setF S.fs f.name fun x => { x with lasts := f.lasts.set k u } } c ∧ Ch o w o' (w.setCell ⟨g, off + k, none⟩ (.int .u8 u.toNat)) := by
  have hr := h.file f hf
  obtain ⟨A, cp, e⟩ := hr.lasts.rd.form
  have hn := hr.lasts
  rw [e] at hn
  obtain ⟨g, off, rfl, hB, _, hle, hc, hfz, hset⟩ := hn.at_ hk
  have hc0 : cp ≠ 0 := by omega
  have hbk : blk (c.lv f.name) = some g := by rw [e]; simp [blk, hc0]
  have ht : o g = some (5, f.name) := (h.tag f hf).lasts g hbk
  refine ⟨_, cp, g, off, e, rfl, hle, ht, hc, hfz, fun u => ?_⟩
  have hgr : w.grownBy (w.setCell ⟨g, off + k, none⟩ (.int .u8 u.toNat)) (some g) := gr_setCell _ _ _
  have hz : (w.setCell ⟨g, off + k, none⟩ (.int .u8 u.toNat)).heap.size = w.heap.size := by simp [World.setCell]
  have hfar : ∀ i, i ≠ g → (w.setCell ⟨g, off + k, none⟩ (.int .u8 u.toNat)).heap[i]? = w.heap[i]? := fun i hi => heap_far _ _ _ hi
  obtain ⟨o', c', h', ho', hc'⟩ := h.setLasts hf (Nat.le_of_eq hz.symm) (fun i _ _ h4 => hfar i (fun e => h4 (by rw [e]; exact ht))) (c.lv f.name) (f.lasts.set k u)
    (hr.box.same (hfar _ (fun e => by have := (h.tag f hf).file; rw [e, ht] at this; cases this))) (by rw [e]; exact hset u) (fun q hq => .inl ((h.tag f hf).lasts q hq)) (by rw [List.length_set]; exact hr.small.2.2)
  have ec : c' = c := by
    rw [hc']
    obtain ⟨_, _, _, _, lv⟩ := c
    congr 1
    funext s
    show (if s = f.name then lv f.name else lv s) = lv s
    split
    · next e => rw [e]
    · rfl
  rw [ec] at h'
  refine ⟨o', h', ?_⟩
  refine ⟨hgr.os, hgr.tape, hgr.output, hgr.size, fun i hi h0 => hfar i (fun e => by rw [e, ht] at h0; cases h0), fun i hi h0 => by rw [ho' i hi]; exact h0⟩
end
set_option maxHeartbeats 2000000 in
theorem flip_alive {w : World} {B d : Nat} {o : Own1} {S : Dk} {c : Con} (h : DI w B o d S c) (hi : S.dead = false) (n : List UInt8) (hn : n.length ≤ 1000000000) (hr : rightB n = true) {f : Fi} (hf : S.find n = some f) (p : Nat) (hp : p < f.now.length) (m : UInt8) (hm : m ≠ 0) :
    Calls Tryz.prog 29 #[.pointer (some ⟨d, 0, none⟩), .string ⟨n.toArray⟩, .int .i64 p, .int .u8 m.toNat] w fun e w' => e = .returned (.int .i64 0) ∧ DOut o w B d (S.flip n p m) w' := by
  have H := Lib.hid h
  have hlk := look_any h
  rw [hi] at hlk
  have HK := Lib.hid hlk
  have hm0 : ((m.toNat : Int) != 0) = true := by
    rw [bne_iff_ne]
    intro e
    exact hm (UInt8.toNat_inj.1 (by simpa using e))
  have HFO := Lib.hid (fun wx (hx : w.grownBy wx none) => find_ok (h.ext hx) hn hr hf)
  obtain ⟨hmem, rfl⟩ := find_some hf
  have HM := Lib.hid hmem
  have hsm := (h.file f hmem).small
  clear hlk h hf hmem
  go_enter Tryz.func29, Tryz.ntmps29
  go_wp2_with fail
  refine HK.out.mono ?_
  rintro e w1 ⟨rfl, rfl⟩
  go_wp2_with fail
  refine (HFO.out _ (gr_refl _ _)).mono ?_
  rintro e w2 ⟨rfl, g2⟩
  have h2 := H.out.ext g2
  have H2 := Lib.hid h2
  have hfc : w2.cell? ⟨c.fb f.name, 0, none⟩ = some (c.nv f.name) := (h2.file f HM.out).box.cell 0
  have hfl : w2.cell? ⟨c.fb f.name, 1, none⟩ = some (c.lv f.name) := (h2.file f HM.out).box.cell 1
  obtain ⟨A, cp, g, off, e1, rfl, hle, ht, hc, hfz, hset⟩ := h2.putNow HM.out hp
  rw [e1] at hfc
  have hpi : (p : Int) < (f.now.length : Int) := by omega
  have hdp : decide ((f.now.length : Int) ≤ (p : Int)) = false := by simp only [decide_eq_false_iff_not]; omega
  obtain ⟨u, hu⟩ : ∃ u, u = f.now[p] ^^^ m := ⟨_, rfl⟩
  have hx : bits .xor .u8 (f.now[p].toNat : Int) (m.toNat : Int) = ((u.toNat : Nat) : Int) := by
    rw [hu]
    rw [u8_xor_nat _ _ f.now[p].toNat_lt m.toNat_lt, UInt8.toNat_xor]
  obtain ⟨o3, h3, ch3⟩ := hset u
  obtain ⟨f1, hf1⟩ : ∃ f1 : Fi, f1 = { f with now := f.now.set p u } := ⟨_, rfl⟩
  have hm1 : f1 ∈ setF S.fs f.name fun x => { x with now := f.now.set p u } := by
    unfold setF
    refine List.mem_map.2 ⟨f, HM.out, ?_⟩
    rw [if_pos rfl, hf1]
  have en : f1.name = f.name := by rw [hf1]
  have el : f1.lasts = f.lasts := by rw [hf1]
  have hl1 : (w2.setCell ⟨g, off + p, none⟩ (.int .u8 u.toNat)).cell? ⟨c.fb f.name, 1, none⟩ = some (c.lv f.name) := by
    have := (h3.file f1 hm1).box.cell 1
    rw [en] at this
    exact this
  have C3 := Lib.hid ch3
  have HM1 := Lib.hid hm1
  have HX : Hid (S.flip f.name p m = { S with fs := setF (setF S.fs f.name fun x => { x with now := f.now.set p u }) f.name fun x => { x with lasts := flipL f.lasts p m } }) := by
    show _ = _
    unfold Dk.flip
    congr 1
    unfold setF
    rw [List.map_map]
    refine List.map_congr_left fun a ha => ?_
    show _ = (if (if a.name = f.name then _ else a : Fi).name = f.name then _ else _)
    by_cases hn : a.name = f.name
    · have := nodup_name H.out.names ha HM.out hn
      subst this
      simp [flipL, hp, hu]
    · simp [hn]
  have G2 := Lib.hid g2
  have HU := Lib.hid hu
  clear hu
  by_cases hpl : p < f.lasts.length
  · obtain ⟨A2, cp2, g', off', e2, rfl, hle2, ht2, hc2, hfz2, hset2⟩ := h3.putLasts hm1 (k := p) (by rw [el]; exact hpl)
    have hgl : f1.lasts[p]'(by rw [el]; exact hpl) = f.lasts[p] := by simp [el]
    rw [hgl] at hc2
    rw [en, el] at e2
    rw [el] at hle2
    rw [e2] at hl1
    have hpl2 : (p : Int) < (f.lasts.length : Int) := by omega
    obtain ⟨u2, hu2⟩ : ∃ u, u = f.lasts[p] ^^^ m := ⟨_, rfl⟩
    have hx2 : bits .xor .u8 (f.lasts[p].toNat : Int) (m.toNat : Int) = ((u2.toNat : Nat) : Int) := by
      rw [hu2, u8_xor_nat _ _ f.lasts[p].toNat_lt m.toNat_lt, UInt8.toNat_xor]
    obtain ⟨o4, h4, ch4⟩ := hset2 u2
    have hfin : Hid (S.flip f.name p m = { S with fs := setF (setF S.fs f.name fun x => { x with now := f.now.set p u }) f1.name fun x => { x with lasts := f1.lasts.set p u2 } }) := by
      show _ = _
      rw [HX.out, en, el, hu2]
      simp [flipL, hpl]
    have H4 := Lib.hid h4
    have C4 := Lib.hid ch4
    clear h2 hset h3 ch3 hm1 g2 hset2 h4 ch4 hu2
    go_wp2_with fail
    go_ret
    rw [hfin.out]
    exact ⟨rfl, o4, c, H4.out, ((Ch.ext G2.out).trans C3.out).trans C4.out⟩
  · obtain ⟨A2, cp2, e2⟩ := (h3.file f1 hm1).lasts.rd.form
    rw [en, el] at e2
    rw [e2] at hl1
    have hpl2 : (f.lasts.length : Int) ≤ (p : Int) := by omega
    have hfin : Hid (S.flip f.name p m = { S with fs := setF S.fs f.name fun x => { x with now := f.now.set p u } }) := by
      show _ = _
      unfold Dk.flip
      rw [setF_congr H.out.names HM.out (g1 := fun f => { f with now := flipL f.now p m, lasts := flipL f.lasts p m }) (g2 := fun x => { x with now := f.now.set p u }) (by simp [flipL, hp, HU.out, List.set_eq_of_length_le (Nat.le_of_not_lt hpl)])]
    have H3 := Lib.hid h3
    clear h2 hset h3 ch3 hm1 g2
    go_wp2_with fail
    go_ret
    rw [hfin.out]
    exact ⟨rfl, o3, c, H3.out, (Ch.ext G2.out).trans C3.out⟩
theorem flip_any {w : World} {B d : Nat} {o : Own1} {S : Dk} {c : Con} (h : DI w B o d S c) (hi : Idle S) (n : List UInt8) (hn : n.length ≤ 1000000000) (hr : rightB n = true) {f : Fi} (hf : S.find n = some f) (p : Nat) (hp : p < f.now.length) (m : UInt8) (hm : m ≠ 0) :
    Calls Tryz.prog 29 #[.pointer (some ⟨d, 0, none⟩), .string ⟨n.toArray⟩, .int .i64 p, .int .u8 m.toNat] w fun e w' => e = .returned (.int .i64 0) ∧ DOut o w B d (S.flip n p m) w' := flip_alive h hi.2 n hn hr hf p hp m hm
end Go.Proofs.YtipankjajdpiiaaGreat

/- journal.Open on a disk whose power stays, and Recs. -/
namespace Go.Proofs.YtipankjajdpiiaaGreat
open Go.RowKit
set_option maxRecDepth 100000
set_option maxHeartbeats 400000

abbrev jn : List UInt8 := [106, 111, 117, 114, 110, 97, 108]
theorem jn_right : rightB jn = true := by decide
/-- what a journal's file says, as it is opened. -/
def jRecs (S : Dk) : List Rc := match S.find jn with
  | none => []
  | some f => readJ f.now
def jOpen1 (S : Dk) : Dk := match S.find jn with
  | none => { S with fs := S.fs ++ [⟨jn, [], []⟩] }
  | some _ => S
def jOpen2 (S : Dk) (f : Fi) : Dk := if 64 * (readJ f.now).length < f.now.length then S.cutTo jn (64 * (readJ f.now).length) else S
def jOpen (S : Dk) : Dk := match (jOpen1 S).find jn with
  | none => S
  | some f => (jOpen2 (jOpen1 S) f).synced jn
theorem readF_le (f n : Nat) (b : List UInt8) : 64 * (readF f n b).length ≤ b.length := by
  induction f generalizing n b with
  | zero => simp [readF]
  | succ f ih =>
    unfold readF
    split
    · rename_i h
      split
      · simp
      · have := ih (n + 1) (b.drop 64)
        rw [List.length_drop] at this
        rw [List.length_cons]
        omega
    · simp
theorem readJ_le (b : List UInt8) : 64 * (readJ b).length ≤ b.length := readF_le _ _ _
theorem readJ_nil : readJ [] = [] := rfl
/-- a journal in memory. -/
structure JR (w : World) (B : Nat) (o : Own1) (jb d : Nat) (v : Value) (l : List Rc) : Prop where
  box : Blk w jb 87 #[.pointer (some ⟨d, 0, none⟩), v]
  own : OwnR w B v l
  free : o jb = none ∧ ∀ k, blk v = some k → o k = none
  jB : B ≤ jb
  sep : ∀ k, blk v = some k → k ≠ jb
section
variable {w w' : World} {B d jb : Nat} {o o' : Own1} {S : Dk} {c : Con} {v : Value} {l : List Rc}
theorem JR.ch (h : JR w B o jb d v l) (hc : Ch o w o' w') : JR w' B o' jb d v l :=
  ⟨hc.blk h.box h.free.1, hc.own h.own (by omega) h.free.2, ⟨hc.free _ h.box.lt h.free.1, fun k hk => hc.free _ (Own.blk_lt h.own (by omega) hk).2 (h.free.2 k hk)⟩, h.jB, h.sep⟩
theorem recs_nil (w : World) : Calls Tryz.prog 12 #[.pointer none] w fun e w' => e = .returned (.slice none 0 0) ∧ w = w' := by
  go_enter Tryz.func12, Tryz.ntmps12
  go_wp2
  go_ret
  exact ⟨rfl, rfl⟩
theorem recs_any (h : JR w B o jb d v l) (hl : l.length ≤ 1000000000) : Calls Tryz.prog 12 #[.pointer (some ⟨jb, 0, none⟩)] w fun e w' => (∃ v', e = .returned v' ∧ OwnR w' w.heap.size v' l) ∧ w.grownBy w' none := by
  have hc : w.cell? ⟨jb, 1, none⟩ = some v := h.box.cell 1
  have H := Lib.hid (cloneR v l w h.own.rd hl)
  clear h
  go_enter Tryz.func12, Tryz.ntmps12
  go_wp2_with (go_at_call 39; refine H.out.mono ?_; rintro e w1 ⟨⟨v1, rfl, o1⟩, g1⟩)
  go_ret
  exact ⟨⟨_, rfl, o1⟩, g1⟩
def OpenOut (o : Own1) (w : World) (B d : Nat) (S : Dk) (e : Ending) (w' : World) : Prop :=
  ∃ jb v o' c', e = .returned (.tuple #[.pointer (some ⟨jb, 0, none⟩), .int .i64 0]) ∧ DI w' B o' d (jOpen S) c' ∧ Ch o w o' w' ∧ JR w' w.heap.size o' jb d v (jRecs S)
set_option maxHeartbeats 2000000 in
theorem open_some (h : DI w B o d S c) (hi : Idle S) {f : Fi} (hf : S.find jn = some f) :
    Calls Tryz.prog 22 #[.pointer (some ⟨d, 0, none⟩)] w (OpenOut o w B d S) := by
  have hsm := (h.file f (find_some hf).1).small
  have hs := size_any h jn (by simp)
  have hr := fun (k : Int) (hk : k = (f.now.length : Int)) (wx : World) (hx : w.grownBy wx none) => read_any (h.ext hx) jn (by simp) 0 k (by omega) (by omega)
  rw [size_idle hi jn_right hf] at hs
  have e0 : S.read jn 0 (f.now.length : Int) = (f.now, 0) := by
    have := read_idle (p := 0) (k := f.now.length) hi jn_right hf
    simpa using this
  have HS := Lib.hid hs
  have HR : Hid (∀ (k : Int) (wx : World), k = (f.now.length : Int) → w.grownBy wx none → Calls Tryz.prog 66 #[.pointer (some ⟨d, 0, none⟩), .string ⟨jn.toArray⟩, .int .i64 0, .int .i64 k] wx fun e w' => (∃ v, e = .returned (.tuple #[v, .int .i64 0]) ∧ OwnB w' wx.heap.size v f.now) ∧ wx.grownBy w' none) := fun k wx hk hx => by
    have := hr k hk wx hx
    subst hk
    rw [e0] at this
    exact this
  have H := Lib.hid h
  have HI := Lib.hid hi
  have HF := Lib.hid hf
  clear h hs hr e0 hf hi
  go_enter Tryz.func22, Tryz.ntmps22
  go_wp2_with fail
  refine HS.out.mono ?_
  rintro e w1 ⟨rfl, g1⟩
  have G1 := Lib.hid g1
  clear g1
  go_wp2_with fail
  refine (HR.out _ _ rfl G1.out).mono ?_
  rintro e w2 ⟨⟨v2, rfl, o2⟩, g2⟩
  have G2 := Lib.hid (gr_none G1.out g2)
  have HO2 := Lib.hid o2
  clear o2 g2
  go_wp2_with fail
  refine (jread_any _ f.now _ HO2.out.rd (by omega)).mono ?_
  rintro e w3 ⟨⟨v3, rfl, o3⟩, g3⟩
  have G3 := Lib.hid (gr_none G2.out g3)
  obtain ⟨A3, c3, rfl⟩ := o3.rd.form
  have hle := readJ_le f.now
  have HO3 := Lib.hid (Own.mono o3 G2.out.size)
  have hjr : Hid (jRecs S = readJ f.now) := by show _ = _; unfold jRecs; rw [HF.out]
  have hj1 : Hid (jOpen S = (jOpen2 S f).synced jn) := by
    show _ = _
    have e1 : jOpen1 S = S := by unfold jOpen1; rw [HF.out]
    unfold jOpen
    rw [e1, HF.out]
  have hj2 : Hid (jOpen2 S f = if 64 * (readJ f.now).length < f.now.length then S.cutTo jn (64 * (readJ f.now).length) else S) := rfl
  clear o3 g3
  generalize readJ f.now = l at *
  have HBX := Lib.hid (Blk.new w3 87 #[.pointer (some ⟨d, 0, none⟩), .slice A3 l.length c3])
  have GA := Lib.hid (gr_none G3.out (gr_alloc w3 (.cells #[.pointer (some ⟨d, 0, none⟩), .slice A3 l.length c3] 87) none))
  have hfree : ∀ k, w.heap.size ≤ k → o k = none := fun k hk => by
    cases e : o k with
    | none => rfl
    | some t => exact absurd (H.out.inb k (by rw [e]; simp)).2 (by omega)
  have HJ : Hid (JR (w3.alloc (.cells #[.pointer (some ⟨d, 0, none⟩), .slice A3 l.length c3] 87)) w.heap.size o w3.heap.size d (.slice A3 l.length c3) l) :=
    ⟨HBX.out, HO3.out.alloc _, ⟨hfree _ G3.out.size, fun k hk => hfree k (Own.blk_lt HO3.out (by omega) hk).1⟩, G3.out.size, fun k hk => Nat.ne_of_lt (Own.blk_lt HO3.out (by omega) hk).2⟩
  have HD := Lib.hid (H.out.ext GA.out)
  by_cases hw : (64 * l.length : Int) < (f.now.length : Int)
  · have hcut := cut_any HD.out jn (by simp) ((l.length : Int) * 64) (by omega)
    rw [show ((l.length : Int) * 64) = ((64 * l.length : Nat) : Int) from by omega, cut_idle HI.out jn_right HF.out (by omega)] at hcut
    have e1 : ((64 * l.length : Nat) : Int) = (l.length : Int) * 64 := by omega
    rw [e1] at hcut
    have HC := Lib.hid hcut
    have hj3 : Hid (jOpen S = (S.cutTo jn (64 * l.length)).synced jn) := by show _ = _; rw [hj1.out, hj2.out, if_pos (by omega)]
    have hw2 : (l.length : Int) * 64 < (f.now.length : Int) := by omega
    clear hcut e1 hw hfree
    go_wp2_with fail
    refine HC.out.mono ?_
    rintro e w4 ⟨rfl, o4, c4, h4, ch4⟩
    have hsy := sync_any h4 jn (by simp)
    rw [sync_idle (f := { f with now := f.now.take (64 * l.length), lasts := f.lasts.take (64 * l.length) }) (show Idle (S.cutTo jn (64 * l.length)) from HI.out) jn_right (by rw [find_cutTo, HF.out]; simp [(find_some HF.out).2])] at hsy
    have HSY := Lib.hid hsy
    have C4 := Lib.hid ch4
    clear hsy h4 ch4
    go_wp2_with fail
    refine HSY.out.mono ?_
    rintro e w5 ⟨rfl, o5, c5, h5, ch5⟩
    have H5 := Lib.hid h5
    have C5 := Lib.hid ch5
    clear h5 ch5
    go_wp2
    go_ret2
    exact ⟨_, _, o5, c5, rfl, by rw [hj3.out]; exact H5.out, ((Ch.ext GA.out).trans C4.out).trans C5.out, by rw [hjr.out]; exact (HJ.out.ch C4.out).ch C5.out⟩
  · have hj3 : Hid (jOpen S = S.synced jn) := by show _ = _; rw [hj1.out, hj2.out, if_neg (by omega)]
    have hsy := sync_any HD.out jn (by simp)
    rw [sync_idle HI.out jn_right HF.out] at hsy
    have HSY := Lib.hid hsy
    have hw2 : (f.now.length : Int) ≤ (l.length : Int) * 64 := by omega
    clear hsy hw hfree
    go_wp2_with fail
    refine HSY.out.mono ?_
    rintro e w5 ⟨rfl, o5, c5, h5, ch5⟩
    have H5 := Lib.hid h5
    have C5 := Lib.hid ch5
    clear h5 ch5
    go_wp2
    go_ret2
    exact ⟨_, _, o5, c5, rfl, by rw [hj3.out]; exact H5.out, (Ch.ext GA.out).trans C5.out, by rw [hjr.out]; exact HJ.out.ch C5.out⟩
set_option maxHeartbeats 2000000 in
theorem open_none (h : DI w B o d S c) (hi : Idle S) (hf : S.find jn = none) (hfl : S.fs.length ≤ 1000000) :
    Calls Tryz.prog 22 #[.pointer (some ⟨d, 0, none⟩)] w (OpenOut o w B d S) := by
  have hs := size_any h jn (by simp)
  rw [size_none hi jn_right hf] at hs
  have HS := Lib.hid hs
  have hcr := fun (wx : World) (hx : w.grownBy wx none) => create_any (h.ext hx) jn (by simp) hfl
  rw [create_idle hi jn_right hf] at hcr
  have HCR := Lib.hid hcr
  have hf1 := find_added S jn hf
  have hj1 : Hid (jOpen S = ({ S with fs := S.fs ++ [⟨jn, [], []⟩] } : Dk).synced jn) := by
    show _ = _
    have e1 : jOpen1 S = { S with fs := S.fs ++ [⟨jn, [], []⟩] } := by unfold jOpen1; rw [hf]
    unfold jOpen
    rw [e1, hf1]
    rfl
  have hjr : Hid (jRecs S = []) := by show _ = _; unfold jRecs; rw [hf]
  have hi1 : Idle { S with fs := S.fs ++ [⟨jn, [], []⟩] } := hi
  obtain ⟨S1, hS1⟩ : ∃ S1 : Dk, S1 = { S with fs := S.fs ++ [⟨jn, [], []⟩] } := ⟨_, rfl⟩
  have hre := fun (wx : World) (o1 : Own1) (c1 : Con) (h1 : DI wx B o1 d S1 c1) => read_any h1 jn (by simp) 0 0 (by omega) (by omega)
  have hsy := fun (wx : World) (o1 : Own1) (c1 : Con) (h1 : DI wx B o1 d S1 c1) => sync_any h1 jn (by simp)
  rw [← hS1] at hf1 hi1
  have e0 : S1.read jn 0 0 = ([], 0) := by
    have := read_idle (p := 0) (k := 0) hi1 jn_right hf1
    simpa using this
  rw [e0] at hre
  rw [sync_idle hi1 jn_right hf1] at hsy
  have HRE := Lib.hid hre
  have HSY := Lib.hid hsy
  have HS1 := Lib.hid hS1
  have H := Lib.hid h
  clear h hs hcr hf hi hre hsy hS1 hf1 hi1 e0 hfl
  go_enter Tryz.func22, Tryz.ntmps22
  go_wp2_with fail
  refine HS.out.mono ?_
  rintro e w1 ⟨rfl, g1⟩
  have G1 := Lib.hid g1
  clear g1
  go_wp2_with fail
  refine (HCR.out _ G1.out).mono ?_
  rintro e w2 ⟨rfl, o2, c2, h2, ch2⟩
  rw [← HS1.out] at h2
  have H2 := Lib.hid h2
  have C2 := Lib.hid ((Ch.ext G1.out).trans ch2)
  clear h2 ch2
  go_wp2_with fail
  refine (HRE.out _ _ _ H2.out).mono ?_
  rintro e w3 ⟨⟨v3, rfl, o3⟩, g3⟩
  have HO3 := Lib.hid o3
  have G3 := Lib.hid g3
  clear o3 g3
  go_wp2_with fail
  refine (jread_any _ [] _ HO3.out.rd (by simp)).mono ?_
  rintro e w4 ⟨⟨v4, rfl, o4⟩, g4⟩
  rw [readJ_nil] at o4
  obtain ⟨A4, c4, rfl⟩ := o4.rd.form
  have G4 := Lib.hid (gr_none G3.out g4)
  have HO4 := Lib.hid (Own.mono o4 G3.out.size)
  have HBX := Lib.hid (Blk.new w4 87 #[.pointer (some ⟨d, 0, none⟩), .slice A4 ([] : List Rc).length c4])
  have GA := Lib.hid (gr_none G4.out (gr_alloc w4 (.cells #[.pointer (some ⟨d, 0, none⟩), .slice A4 ([] : List Rc).length c4] 87) none))
  have hfree : ∀ k, w2.heap.size ≤ k → o2 k = none := fun k hk => by
    cases e : o2 k with
    | none => rfl
    | some t => exact absurd (H2.out.inb k (by rw [e]; simp)).2 (by omega)
  have hz12 := C2.out.size
  have HJ : Hid (JR (w4.alloc (.cells #[.pointer (some ⟨d, 0, none⟩), .slice A4 ([] : List Rc).length c4] 87)) w.heap.size o2 w4.heap.size d (.slice A4 ([] : List Rc).length c4) []) :=
    ⟨HBX.out, (Own.mono HO4.out hz12).alloc _, ⟨hfree _ G4.out.size, fun k hk => hfree k (Own.blk_lt HO4.out (by omega) hk).1⟩, Nat.le_trans hz12 G4.out.size, fun k hk => Nat.ne_of_lt (Own.blk_lt HO4.out (by omega) hk).2⟩
  have HD := Lib.hid (H2.out.ext GA.out)
  clear o4 g4 hfree
  go_wp2_with fail
  refine (HSY.out _ _ _ HD.out).mono ?_
  rintro e w5 ⟨rfl, o5, c5, h5, ch5⟩
  have H5 := Lib.hid h5
  have C5 := Lib.hid ch5
  clear h5 ch5
  go_wp2
  go_ret2
  exact ⟨_, _, o5, c5, rfl, by rw [hj1.out, ← HS1.out]; exact H5.out, (C2.out.trans (Ch.ext GA.out)).trans C5.out, by rw [hjr.out]; exact HJ.out.ch C5.out⟩
theorem open_idle (h : DI w B o d S c) (hi : Idle S) (hfl : S.fs.length ≤ 1000000) :
    Calls Tryz.prog 22 #[.pointer (some ⟨d, 0, none⟩)] w (OpenOut o w B d S) := by
  cases hf : S.find jn with
  | none => exact open_none h hi hf hfl
  | some f => exact open_some h hi hf
theorem jOpen_idle {S : Dk} (hi : Idle S) : Idle (jOpen S) := by
  unfold jOpen
  have h1 : Idle (jOpen1 S) := by unfold jOpen1; split <;> exact hi
  split
  · exact hi
  · unfold jOpen2
    split <;> exact h1
end
end Go.Proofs.YtipankjajdpiiaaGreat
