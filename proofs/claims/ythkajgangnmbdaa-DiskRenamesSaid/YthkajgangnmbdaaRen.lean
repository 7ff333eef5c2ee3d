/-
  disk.Rename on a disk without loose sectors.
-/
import Derived.Test.YthkajgangnmbdaaRm
import Derived.Maps.OwnSet
namespace Go.Proofs.Ythkajgangnmbdaa
open Go.RowKit Go.Maps
set_option maxRecDepth 100000
set_option maxHeartbeats 400000

/-- m[s] = p, where s is there: the map is no larger. -/
theorem wp_fm_put1 {w : World} {m n : Nat} {dom : List UInt8 → Option Nat} {ops : Array Oper} {rest : List Oper} {o : Oper} {a : Act} {Q : Exit → Act → World → Prop} (hg : o.guard = none) (mm x v : Operand) (hop : o.op = .mapUpdate 43 mm x v)
    (h : FM w m n dom) (hm : a.eval mm = .map (some m)) (hn : n < maxLen) {s : List UInt8} (hs : s.length ≤ maxLen) (hin : dom s ≠ none) (hx : a.eval x = .string ⟨s.toArray⟩) (b : Nat) (hv : a.eval v = .pointer (some ⟨b, 0, none⟩))
    (hK : ∀ w', FM w' m n (fun x => if x = s then some b else dom x) → w.grownBy w' (some m) → wpList Try.prog ops Q rest (a.put o.dst undef) w') : wpList Try.prog ops Q (o :: rest) a w := by
  obtain ⟨D, h, h0, h1⟩ := h
  obtain ⟨b0, hb0⟩ := Option.ne_none_iff_exists'.1 hin
  have hhas := (h1 s b0 hb0).2.1
  have hle := h.size_le
  have hty : Tidy D := World.ownsMap.tidy h Try.keyedS
  refine wpList_mapUpdate_own w hg mm x v _ hop 9 48 Try.keyedS Try.underlying43 ptrElem m n D hm h hn _ _ _ hx hv (keyS hs) (.lit (.int .i64 b)) [] rfl
    fun w' h' g' => hK w' (FM.of_put (FM.isMap h) h0 h1 hs b ?_) g'
  obtain ⟨es, clock, q1, q2, q3, q4⟩ := h'
  have h3 := Maps.size_put (k := .string s) hty (.lit (.int .i64 b))
  rw [hhas, if_pos rfl] at h3
  have hes : es.size ≤ n := by
    have : Maps.size (D.put (.string s) (.lit (.int .i64 b))) = es.size := by rw [q4]; simp [Maps.size, Go.length_sorted]
    omega
  exact ⟨es, clock, q1, q2, hes, q4⟩
/-- the file under its new name. -/
def Dk.took (S : Dk) (f : Fi) (to : List UInt8) : Dk := { S with fs := butF S.fs to ++ [⟨to, f.now, f.lasts⟩] }
def reTag (o : Own1) (a b : List UInt8) : Own1 := fun i => (o i).map fun p => (p.1, if p.2 = a then b else p.2)
section
variable {w w' : World} {B d : Nat} {o : Own1} {S : Dk} {c : Con}
theorem reTag_none {a b : List UInt8} {i : Nat} (h : o i = none) : reTag o a b i = none := by unfold reTag; rw [h]; rfl
theorem reTag_some {a b : List UInt8} {i k : Nat} {s : List UInt8} (h : o i = some (k, s)) (hs : s ≠ a) : reTag o a b i = some (k, s) := by unfold reTag; rw [h]; simp [hs]
theorem reTag_hit {a b : List UInt8} {i k : Nat} (h : o i = some (k, a)) : reTag o a b i = some (k, b) := by unfold reTag; rw [h]; simp
theorem reTag_is {a b : List UInt8} {i : Nat} (h : reTag o a b i ≠ none) : o i ≠ none := fun e => h (reTag_none e)
theorem DI.took (h : DI w B o d S c) {f : Fi} (hf : FileR w B c f) (ht : TagR o c f) (hn : S.find f.name = none) (hf0 : f.name ≠ []) {to : List UInt8} (htl : to.length ≤ 24) (hg : w.grownBy w' (some c.mb))
    (hm : FM w' c.mb ((butF S.fs to).length + 1) (fun x => if x = to then some (c.fb f.name) else domOf S.fs c.fb x)) :
    ∃ c', DI w' B (reTag o f.name to) d (S.took f to) c' := by
  have hM := h.tM
  have hs : ∀ i, o i ≠ none → i ≠ c.mb → w'.heap[i]? = w.heap[i]? := fun i hi hd => hg.block i (h.inb i hi).2 (fun e => hd (by cases e; rfl))
  have hsT : ∀ {i} {t : Nat × List UInt8}, o i = some t → t ≠ (1, []) → w'.heap[i]? = w.heap[i]? := fun {i t} e ht2 => hs i (by rw [e]; simp) (fun e2 => by rw [e2, hM] at e; exact ht2 (Option.some.inj e).symm)
  have hne := find_none hn
  have h0f : ([] : List UInt8) ≠ f.name := fun e => hf0 e.symm
  obtain ⟨c', hc'⟩ : ∃ c' : Con, c' = { c with fb := fun s => if s = to then c.fb f.name else c.fb s, nv := fun s => if s = to then c.nv f.name else c.nv s, lv := fun s => if s = to then c.lv f.name else c.lv s } := ⟨_, rfl⟩
  have e1 : ∀ s, s ≠ to → c'.fb s = c.fb s ∧ c'.nv s = c.nv s ∧ c'.lv s = c.lv s := fun s hs => by rw [hc']; exact ⟨if_neg hs, if_neg hs, if_neg hs⟩
  have e2 : c'.fb to = c.fb f.name ∧ c'.nv to = c.nv f.name ∧ c'.lv to = c.lv f.name := by rw [hc']; exact ⟨if_pos rfl, if_pos rfl, if_pos rfl⟩
  have e3 : c'.mb = c.mb ∧ c'.lb = c.lb := by rw [hc']; exact ⟨rfl, rfl⟩
  refine ⟨c', { self := ?_, fm := ?_, lm := ?_, file := fun g hg => ?_, tag := fun g hg => ?_, names := ?_, tD := reTag_some h.tD h0f, tM := by rw [e3.1]; exact reTag_some h.tM h0f, tL := by rw [e3.2]; exact reTag_some h.tL h0f, inb := fun i hi => ⟨(h.inb i (reTag_is hi)).1, Nat.lt_of_lt_of_le (h.inb i (reTag_is hi)).2 hg.size⟩, lim := h.lim }⟩
  · unfold selfC
    rw [e3.1, e3.2]
    exact h.self.same (hsT h.tD (by simp))
  · rw [e3.1]
    show FM w' c.mb (butF S.fs to ++ [(⟨to, f.now, f.lasts⟩ : Fi)]).length (domOf (butF S.fs to ++ [(⟨to, f.now, f.lasts⟩ : Fi)]) c'.fb)
    have : domOf (butF S.fs to ++ [(⟨to, f.now, f.lasts⟩ : Fi)]) c'.fb = fun x => if x = to then some (c.fb f.name) else domOf S.fs c.fb x := by
      funext s
      unfold domOf
      rw [List.find?_append, butF_find]
      by_cases hs : s = to
      · rw [if_pos hs, if_pos hs, hs]
        simp [e2.1]
      · rw [if_neg hs, if_neg hs]
        have : (to == s) = false := by simpa using fun e => hs e.symm
        cases hq : S.fs.find? (fun f => f.name == s) with
        | none => simp [this]
        | some f => simp [(e1 s hs).1]
    rw [this]
    simpa using hm
  · rw [e3.2]; exact h.lm.same (hsT h.tL (by simp))
  · rcases List.mem_append.1 hg with hg | hg
    · obtain ⟨hg1, hg2⟩ := mem_butF hg
      obtain ⟨a1, a2, a3⟩ := e1 _ hg2
      have := (h.file g hg1).same (w' := w') (hsT (h.tag g hg1).file (by simp)) (fun k hk => hsT ((h.tag g hg1).now k hk) (by simp)) (fun k hk => hsT ((h.tag g hg1).lasts k hk) (by simp))
      refine ⟨?_, ?_, ?_, this.small⟩
      · rw [a1, a2, a3]; exact this.box
      · rw [a2]; exact this.now
      · rw [a3]; exact this.lasts
    · obtain rfl : g = ⟨to, f.now, f.lasts⟩ := by simpa using hg
      have := hf.same (w' := w') (hsT ht.file (by simp)) (fun k hk => hsT (ht.now k hk) (by simp)) (fun k hk => hsT (ht.lasts k hk) (by simp))
      refine ⟨?_, ?_, ?_, htl, this.small.2.1, this.small.2.2⟩
      · show Blk w' (c'.fb to) _ #[c'.nv to, c'.lv to]
        rw [e2.1, e2.2.1, e2.2.2]; exact this.box
      · show OwnB w' B (c'.nv to) f.now
        rw [e2.2.1]; exact this.now
      · show OwnB w' B (c'.lv to) f.lasts
        rw [e2.2.2]; exact this.lasts
  · rcases List.mem_append.1 hg with hg | hg
    · obtain ⟨hg1, hg2⟩ := mem_butF hg
      obtain ⟨a1, a2, a3⟩ := e1 _ hg2
      have hgn := hne g hg1
      have ht := h.tag g hg1
      exact ⟨by rw [a1]; exact reTag_some ht.file hgn, fun b hb => by rw [a2] at hb; exact reTag_some (ht.now b hb) hgn, fun b hb => by rw [a3] at hb; exact reTag_some (ht.lasts b hb) hgn⟩
    · obtain rfl : g = ⟨to, f.now, f.lasts⟩ := by simpa using hg
      refine ⟨?_, fun b hb => ?_, fun b hb => ?_⟩
      · show reTag o f.name to (c'.fb to) = some (3, to)
        rw [e2.1]; exact reTag_hit ht.file
      · have hb' : blk (c'.nv to) = some b := hb
        rw [e2.2.1] at hb'
        exact reTag_hit (ht.now b hb')
      · have hb' : blk (c'.lv to) = some b := hb
        rw [e2.2.2] at hb'
        exact reTag_hit (ht.lasts b hb')
  · show ((butF S.fs to ++ [(⟨to, f.now, f.lasts⟩ : Fi)]).map Fi.name).Nodup
    rw [List.map_append, List.nodup_append]
    refine ⟨List.Nodup.sublist (List.Sublist.map _ List.filter_sublist) h.names, by simp, fun a ha b hb => ?_⟩
    obtain ⟨g, hg, rfl⟩ := List.mem_map.1 ha
    have hb' : b = to := by simpa using hb
    rw [hb']
    exact (mem_butF hg).2
/-- the same, told of a list of files. -/
theorem wp_fm_put2 {m : Nat} {fs : List Fi} {fb : List UInt8 → Nat} {ops : Array Oper} {rest : List Oper} {oo : Oper} {a : Act} {Q : Exit → Act → World → Prop} (hg : oo.guard = none) (mm x v : Operand) (hop : oo.op = .mapUpdate 43 mm x v)
    (hN : (fs.map Fi.name).Nodup) (h : FM w m fs.length (domOf fs fb)) (hm : a.eval mm = .map (some m)) (hn : fs.length ≤ 1000000) {s : List UInt8} (hs : s.length ≤ maxLen) (hx : a.eval x = .string ⟨s.toArray⟩) (b : Nat) (hv : a.eval v = .pointer (some ⟨b, 0, none⟩))
    (hK : ∀ w', FM w' m ((butF fs s).length + 1) (fun x => if x = s then some b else domOf fs fb x) → w.grownBy w' (some m) → wpList Try.prog ops Q rest (a.put oo.dst undef) w') : wpList Try.prog ops Q (oo :: rest) a w := by
  have hmx : fs.length < maxLen := by unfold maxLen; omega
  cases hq : fs.find? (fun f => f.name == s) with
  | none =>
    have e : butF fs s = fs := List.filter_eq_self.2 fun g hg => by
      rw [List.find?_eq_none] at hq
      have := hq g hg
      simpa using this
    rw [e] at hK
    exact wp_fm_put hg mm x v hop h hm hmx hs hx b hv hK
  | some g =>
    have hg1 := List.mem_of_find?_eq_some hq
    have hg2 : g.name = s := by simpa using List.find?_some hq
    have hl := butF_len hN hg1
    rw [hg2] at hl
    rw [hl] at hK
    exact wp_fm_put1 hg mm x v hop h hm hmx hs (by unfold domOf; rw [hq]; simp) hx b hv hK
theorem Ch.reTag {o0 : Own1} {w0 : World} (h : Ch o0 w0 o w) (a b : List UInt8) : Ch o0 w0 (reTag o a b) w := ⟨h.os, h.tape, h.output, h.size, h.block, fun i hi h0 => reTag_none (h.free i hi h0)⟩
def Dk.renamed (S : Dk) (f : Fi) (to : List UInt8) : Dk := Dk.took { S with fs := butF S.fs f.name, loose := fun s k => S.loose s k && !(s == to) } f to
set_option maxHeartbeats 2000000 in
theorem rename_dead (h : DI w B o d S c) (n to : List UInt8) (hd : S.begin.dead = true) :
    Calls Try.prog 11 #[.pointer (some ⟨d, 0, none⟩), .string ⟨n.toArray⟩, .string ⟨to.toArray⟩] w fun e w' => e = .returned (.int .i64 6) ∧ DOut o w B d S.begin w' := by
  have H := Lib.hid h
  have HB := Lib.hid (begin_any h)
  clear h
  go_enter Try.func11, Try.ntmps11
  go_wp2_with fail
  refine HB.out.mono ?_
  rintro e w1 ⟨rfl, h1, g1⟩
  have H1 := Lib.hid h1
  clear h1
  rw [hd]
  go_wp2
  go_ret
  exact ⟨rfl, dout_begin H.out H1.out g1 (gr_refl _ _)⟩
set_option maxHeartbeats 4000000 in
theorem rename_ok (h : DI w B o d S c) {f : Fi} {to : List UInt8} (hd : S.begin.dead = false) (hr : rightB f.name = true) (hr2 : rightB to = true) (hf : S.find f.name = some f) (hne : ¬ f.name = to) (hl : ∀ s k, S.loose s k = false) (hfl : S.fs.length ≤ 1000000) :
    Calls Try.prog 11 #[.pointer (some ⟨d, 0, none⟩), .string ⟨f.name.toArray⟩, .string ⟨to.toArray⟩] w fun e w' => e = .returned (.int .i64 0) ∧ DOut o w B d (S.begin.renamed f to) w' := by
  have b1 : (f.name == to) = false := by simpa using hne
  have hn1 := (right_len hr).2
  have hn2 := (right_len hr2).2
  have hn0 := (right_len hr).1
  have hf1 : S.begin.find f.name = some f := by rw [begin_find]; exact hf
  obtain ⟨hmem, _⟩ := find_some hf1
  have HM := Lib.hid hmem
  have HF1 := Lib.hid hf1
  have HL0 : Hid (∀ s k, S.begin.loose s k = false) := fun s k => by rw [(begin_loose S).1]; exact hl s k
  have HFL : Hid (S.begin.fs.length ≤ 1000000) := by show _ ≤ _; rw [begin_fs]; exact hfl
  have H := Lib.hid h
  have HB := Lib.hid (begin_any h)
  have HR := Lib.hid fun w => right_any to w (by omega)
  have hto : to.length ≤ maxLen := by unfold maxLen; omega
  have hnm : f.name.length ≤ maxLen := by unfold maxLen; omega
  clear h hl hmem hfl hf
  go_enter Try.func11, Try.ntmps11
  go_wp2_with fail
  refine HB.out.mono ?_
  rintro e w1 ⟨rfl, h1, g1⟩
  have H1 := Lib.hid h1
  have G1 := Lib.hid g1
  have Hfo := Lib.hid fun (wx : World) (gx : w1.grownBy wx none) => find_ok (h1.ext gx) (by omega) hr hf1
  clear h1 hf1 g1
  rw [hd]
  go_wp2_with fail
  refine (HR.out _).mono ?_
  rintro e w1b ⟨rfl, g1b⟩
  have G1b := Lib.hid g1b
  have Hf2 := Lib.hid (Hfo.out _ g1b)
  clear g1b Hfo
  rw [hr2]
  go_wp2_with fail
  refine Hf2.out.mono ?_
  rintro e w2 ⟨rfl, g2⟩
  have h2 := H1.out.ext (gr_none G1b.out g2)
  have G2 := Lib.hid (gr_none G1b.out g2)
  have H2 := Lib.hid h2
  have HST := Lib.hid (settle_all h2 to)
  clear h2 g2 Hf2
  go_wp2_with fail
  refine HST.out.mono ?_
  rintro e w3 ⟨rfl, hl3, g3⟩
  have h3 := H2.out.loose g3 hl3
  have H3 := Lib.hid h3
  have hc3 := h3.self.cell
  unfold selfC at hc3
  have C3 : Hid (Ch o w o w3) := ((Ch.of_gr G1.out (fun k e => by cases e; rw [H.out.tD]; simp)).trans (Ch.ext G2.out)).trans (Ch.of_gr g3 (fun k e => by cases e; rw [H2.out.tL]; simp))
  have HLM := Lib.hid hl3
  clear h3 g3 hl3 HST
  go_wp2_with (first | (at_range; refine wp_lm_range rfl _ rfl HLM.out rfl ?_; intro w4 cnt hlr g4 hz4) | go_in)
  go_frame
  have HLR := Lib.hid hlr
  have G4 := Lib.hid g4
  clear hlr g4 hz4 HLM
  have HLN : Hid (∀ s k, (S.begin.loose s k && !s == to) = false) := fun s k => by rw [HL0.out]; rfl
  go_loopw [10] (fun _ wr => ∃ cnt, LR wr c.lb w3.heap.size S.begin.nl (fun s k => S.begin.loose s k && !s == to) (fun s k => S.begin.loose s k && !s == to) cnt ∧ w3.grownBy wr none) (fun _ wr => wr.rangeLeft c.lb w3.heap.size)
  case atStart => exact ⟨_, HLR.out, G4.out⟩
  case round =>
    obtain ⟨cnt, hlr, hgr⟩ := hrel
    have HR4 := Lib.hid hgr
    clear hgr
    go_wp2_with (first | (at_next; refine wp_lm_next rfl _ rfl hlr rfl ?_ ?_) | go_in)
    · intro h0 hl0
      clear h0 hl0 hlr HLR G4
      have h4 := H3.out.ext HR4.out
      have hc4 : wr.cell? ⟨d, 0, none⟩ = some (.map (some c.mb)) := h4.self.cell 0
      have hlen := butF_len H1.out.names HM.out
      have hfm := h4.fm
      have hfm' : FM wr c.mb ((butF S.begin.fs f.name).length + 1) (domOf S.begin.fs c.fb) := by rw [hlen]; exact hfm
      have hin : Hid (domOf S.begin.fs c.fb f.name ≠ none) := by
        show domOf S.begin.fs c.fb f.name ≠ none
        unfold domOf
        rw [find_mem H1.out.names HM.out]; simp
      have H4 := Lib.hid h4
      have HFM := Lib.hid hfm'
      have HFR := Lib.hid (h4.file f HM.out)
      have HTR := Lib.hid (h4.tag f HM.out)
      have HTM := Lib.hid h4.tM
      have HBL : Hid ((butF S.begin.fs f.name).length ≤ 1000000) := by have := HFL.out; show _ ≤ _; omega
      have C4 : Hid (Ch o w o wr) := C3.out.trans (Ch.ext HR4.out)
      clear h4 hlen hfm hfm' hc3
      go_wp2_with (first | (refine wp_fm_del1 rfl (.tmp 64) (.tmp 65) rfl HFM.out rfl hnm hin.out rfl ?_; intro w5 hm5 g5; have H5 := Lib.hid (H4.out.less g5 hm5); have hc5 : w5.cell? ⟨d, 0, none⟩ = some (.map (some c.mb)) := H5.out.self.cell 0; have HN5 := Lib.hid H5.out.names; have HM5 := Lib.hid H5.out.fm; have HG5 := Lib.hid g5; clear hm5 g5 hc4) | (at_mapUpdate; refine wp_fm_put2 rfl _ _ _ rfl HN5.out HM5.out rfl HBL.out hto rfl (c.fb f.name) rfl ?_; intro w6 hm6 g6; have HM6 := Lib.hid hm6; have HG6 := Lib.hid g6; clear hm6 g6))
      have HF5 : Hid (FileR w5 B c f) := HFR.out.same (HG5.out.block _ (H4.out.inb _ (by rw [HTR.out.file]; simp)).2 (fun e => by have h1 := HTR.out.file; have h2 := HTM.out; (first | rw [Option.some.inj e, h1] at h2 | rw [← Option.some.inj e, h1] at h2); cases h2))
        (fun k hk => HG5.out.block _ (H4.out.inb _ (by rw [HTR.out.now k hk]; simp)).2 (fun e => by have h1 := HTR.out.now k hk; have h2 := HTM.out; (first | rw [Option.some.inj e, h1] at h2 | rw [← Option.some.inj e, h1] at h2); cases h2))
        (fun k hk => HG5.out.block _ (H4.out.inb _ (by rw [HTR.out.lasts k hk]; simp)).2 (fun e => by have h1 := HTR.out.lasts k hk; have h2 := HTM.out; (first | rw [Option.some.inj e, h1] at h2 | rw [← Option.some.inj e, h1] at h2); cases h2))
      have C5 : Hid (Ch o w o w5) := C4.out.trans (Ch.of_gr HG5.out (fun k e => by cases e; rw [HTM.out]; simp))
      have h6 := H5.out.took HF5.out HTR.out (by
        show List.find? _ (butF S.begin.fs f.name) = none
        rw [butF_find, if_pos rfl]) (fun e => by rw [e] at hn0; simp at hn0) (to := to) (by omega) HG6.out HM6.out
      have C6 : Hid (Ch o w (reTag o f.name to) w6) := (C5.out.trans (Ch.of_gr HG6.out (fun k e => by cases e; rw [HTM.out]; simp))).reTag _ _
      have H6 := Lib.hid h6
      clear h6
      go_ret
      obtain ⟨c6, h6⟩ := H6.out
      exact ⟨rfl, _, c6, h6, C6.out⟩
    · intro s k w2 cnt2 hok hls
      have h1 := HL0.out s k
      simp [h1] at hls
end
end Go.Proofs.Ythkajgangnmbdaa
