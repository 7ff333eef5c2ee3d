/-
  disk.Remove.
-/
import Derived.Test.YtipankjajdpiiaaGreatLi
import Derived.Test.YtipankjajdpiiaaGreatDw5
import Derived.Maps.OwnSet
namespace Go.Proofs.YtipankjajdpiiaaGreat
open Go.RowKit Go.Maps
set_option maxRecDepth 100000
set_option maxHeartbeats 400000

theorem size_del_lt {H : Type} {D : DataW H} {kl : Lit} (hD : IsMap D) (h : has D kl = true) : Maps.size (D.del kl) + 1 ≤ Maps.size D := by
  obtain ⟨es, rfl⟩ := hD
  rw [has_eq, List.any_eq_true] at h
  obtain ⟨p, hp, hs⟩ := h
  show (es.filter fun p => !p.1.sameKey kl).length + 1 ≤ es.length
  have := List.length_filter_lt_length_iff_exists (p := fun p : Lit × DataW H => !p.1.sameKey kl) (l := es) |>.2 ⟨p, hp, by simp [hs]⟩
  omega
/-- delete(m, s), where it is there: the map is smaller by one. -/
theorem wp_fm_del1 {w : World} {m n : Nat} {dom : List UInt8 → Option Nat} {ops : Array Oper} {rest : List Oper} {o : Oper} {a : Act} {Q : Exit → Act → World → Prop} (hg : o.guard = none) (mm x : Operand) (hop : o.op = .call { callee := .builtin .delete, args := #[mm, x], argTypes := #[71, 9] })
    (h : FM w m (n + 1) dom) (hm : a.eval mm = .map (some m)) {s : List UInt8} (hs : s.length ≤ maxLen) (hin : dom s ≠ none) (hx : a.eval x = .string ⟨s.toArray⟩)
    (hK : ∀ w', FM w' m n (fun x => if x = s then none else dom x) → w.grownBy w' (some m) → wpList Tryz.prog ops Q rest (a.put o.dst (.tuple #[])) w') : wpList Tryz.prog ops Q (o :: rest) a w := by
  obtain ⟨D, h, h0, h1⟩ := h
  obtain ⟨b0, hb0⟩ := Option.ne_none_iff_exists'.1 hin
  have hsz := size_del_lt (FM.isMap h) (h1 s b0 hb0).2.1
  have hle := h.size_le
  refine wpList_delete_own w hg mm x _ _ hop 97 Tryz.keyedS Tryz.underlying71 ptrElem m (n + 1) D hm h _ _ hx (keyS hs) fun w' h' g' => hK w' ?_ g'.grown
  obtain ⟨es, clock, q1, q2, q3, q4⟩ := h'
  have hes : es.size ≤ n := by
    have : Maps.size (D.del (.string s)) = es.size := by rw [q4]; simp [Maps.size, Go.length_sorted]
    omega
  refine ⟨D.del (.string s), ⟨es, clock, q1, q2, hes, q4⟩, fun y hy hn => ?_, fun y c hc => ?_⟩
  · by_cases e : y = s
    · subst e; exact has_del_same
    · simp only [e, if_false] at hn
      rw [has_del_other (string_ne e)]; exact h0 y hy hn
  · by_cases e : y = s
    · simp [e] at hc
    · simp only [e, if_false] at hc
      obtain ⟨k1, k2, k3⟩ := h1 y c hc
      exact ⟨k1, by rw [has_del_other (string_ne e)]; exact k2, fun z => by rw [atKey_del_other (string_ne e)]; exact k3 z⟩
/-- the other files. -/
def butF (fs : List Fi) (n : List UInt8) : List Fi := fs.filter fun f => !(f.name == n)
def Dk.removed (S : Dk) (n : List UInt8) : Dk := { S with fs := butF S.fs n, loose := fun s k => S.loose s k && !(s == n) }
def Dk.remove (S : Dk) (n : List UInt8) : Dk × Nat :=
  if S.begin.dead then (S.begin, 6) else if rightB n = false then (S.begin, 1) else
  match S.find n with
  | none => (S.begin, 3)
  | some _ => (S.begin.removed n, 0)
theorem butF_find (fs : List Fi) (n s : List UInt8) : (butF fs n).find? (fun f => f.name == s) = if s = n then none else fs.find? fun f => f.name == s := by
  unfold butF
  rw [List.find?_filter]
  by_cases e : s = n
  · subst e
    rw [if_pos rfl, List.find?_eq_none]
    intro f _
    simp
  · rw [if_neg e]
    congr 1
    funext f
    by_cases e2 : f.name = s
    · simp [e2, e]
    · simp [e2]
theorem butF_len {fs : List Fi} (hn : (fs.map Fi.name).Nodup) {f : Fi} (hf : f ∈ fs) : (butF fs f.name).length + 1 = fs.length := by
  induction fs with
  | nil => cases hf
  | cons a l ih =>
    rw [List.map_cons, List.nodup_cons] at hn
    unfold butF
    rw [List.filter_cons]
    by_cases e : a.name = f.name
    · have hl : l.filter (fun g => !(g.name == f.name)) = l := List.filter_eq_self.2 fun g hg => by
        have : g.name ≠ f.name := fun e2 => hn.1 (List.mem_map.2 ⟨g, hg, by rw [e2, e]⟩)
        simpa using this
      rw [if_neg (by simp [e]), hl]; rfl
    · rw [if_pos (by simpa using e)]
      have hfl : f ∈ l := by
        rcases List.mem_cons.1 hf with h | h
        · exact absurd (by rw [h]) e
        · exact h
      have := ih hn.2 hfl
      unfold butF at this
      simp only [List.length_cons]
      omega
theorem mem_butF {fs : List Fi} {n : List UInt8} {f : Fi} (h : f ∈ butF fs n) : f ∈ fs ∧ f.name ≠ n := by
  unfold butF at h
  rw [List.mem_filter] at h
  exact ⟨h.1, by simpa using h.2⟩
section
variable {w w' : World} {B d : Nat} {o : Own1} {S : Dk} {c : Con}
/-- a file less. -/
theorem DI.less (h : DI w B o d S c) {n : List UInt8} (hg : w.grownBy w' (some c.mb)) (hm : FM w' c.mb (butF S.fs n).length (fun x => if x = n then none else domOf S.fs c.fb x)) : DI w' B o d { S with fs := butF S.fs n } c := by
  have hs : ∀ i, o i ≠ none → i ≠ c.mb → w'.heap[i]? = w.heap[i]? := fun i hi hd => hg.block i (h.inb i hi).2 (fun e => hd (by cases e; rfl))
  have hM := h.tM
  refine { self := h.self.same (hs _ (by rw [h.tD]; simp) (fun e => by have := h.tD; rw [e, hM] at this; cases this)), fm := ?_, lm := h.lm.same (hs _ (by rw [h.tL]; simp) (fun e => by have := h.tL; rw [e, hM] at this; cases this)), file := fun f hf => ?_, tag := fun f hf => h.tag f (mem_butF hf).1, names := ?_, tD := h.tD, tM := h.tM, tL := h.tL, inb := fun i hi => ⟨(h.inb i hi).1, Nat.lt_of_lt_of_le (h.inb i hi).2 hg.size⟩, lim := h.lim }
  · refine (show (fun x => if x = n then none else domOf S.fs c.fb x) = domOf (butF S.fs n) c.fb from ?_) ▸ hm
    funext x
    unfold domOf
    rw [butF_find]
    split <;> rfl
  · obtain ⟨hf1, _⟩ := mem_butF hf
    refine (h.file f hf1).same (hs _ (by rw [(h.tag f hf1).file]; simp) (fun e => by have := (h.tag f hf1).file; rw [e, hM] at this; cases this)) (fun k hk => hs k (by rw [(h.tag f hf1).now k hk]; simp) (fun e => by have := (h.tag f hf1).now k hk; rw [e, hM] at this; cases this))
      (fun k hk => hs k (by rw [(h.tag f hf1).lasts k hk]; simp) (fun e => by have := (h.tag f hf1).lasts k hk; rw [e, hM] at this; cases this))
  · show ((butF S.fs n).map Fi.name).Nodup
    exact List.Nodup.sublist (List.Sublist.map _ List.filter_sublist) h.names
set_option maxHeartbeats 1000000 in
theorem remove_any (h : DI w B o d S c) (n : List UInt8) (hn : n.length ≤ 1000000000) :
    Calls Tryz.prog 96 #[.pointer (some ⟨d, 0, none⟩), .string ⟨n.toArray⟩] w fun e w' => e = .returned (.int .i64 (S.remove n).2) ∧ DOut o w B d (S.remove n).1 w' := by
  have H := Lib.hid h
  have hbg := begin_any h
  have HB := Lib.hid hbg
  clear h hbg
  cases hd : S.begin.dead with
  | true =>
    have e : S.remove n = (S.begin, 6) := by unfold Dk.remove; rw [hd]; rfl
    rw [e]
    clear e
    go_enter Tryz.func96, Tryz.ntmps96
    go_wp2_with fail
    refine HB.out.mono ?_
    rintro e w1 ⟨rfl, h1, g1⟩
    have H1 := Lib.hid h1
    clear h1
    rw [hd]
    go_wp2
    go_ret
    exact ⟨rfl, dout_begin H.out H1.out g1 (gr_refl _ _)⟩
  | false =>
    cases hr : rightB n with
    | false =>
      have e : S.remove n = (S.begin, 1) := by unfold Dk.remove; rw [hd, hr]; rfl
      rw [e]
      clear e
      go_enter Tryz.func96, Tryz.ntmps96
      go_wp2_with fail
      refine HB.out.mono ?_
      rintro e w1 ⟨rfl, h1, g1⟩
      have H1 := Lib.hid h1
      clear h1
      rw [hd]
      go_wp2_with (go_at_call 74; refine (find_bad d n true _ hn (.inl hr)).mono ?_; rintro e w2 ⟨rfl, g2⟩)
      go_ret
      exact ⟨rfl, dout_begin H.out H1.out g1 g2⟩
    | true =>
      cases hf : S.find n with
      | none =>
        have e : S.remove n = (S.begin, 3) := by unfold Dk.remove; rw [hd, hr, hf]; rfl
        rw [e]
        clear e
        have hf1 : S.begin.find n = none := by rw [begin_find]; exact hf
        clear hf
        go_enter Tryz.func96, Tryz.ntmps96
        go_wp2_with fail
        refine HB.out.mono ?_
        rintro e w1 ⟨rfl, h1, g1⟩
        have H1 := Lib.hid h1
        have Hfo := Lib.hid (find_no h1 hn hr hf1)
        clear h1 hf1
        rw [hd]
        go_wp2_with (go_at_call 74; refine Hfo.out.mono ?_; rintro e w2 ⟨rfl, g2⟩)
        go_ret
        exact ⟨rfl, dout_begin H.out H1.out g1 g2⟩
      | some f =>
        have e : S.remove n = (S.begin.removed n, 0) := by unfold Dk.remove; rw [hd, hr, hf]; rfl
        rw [e]
        clear e
        have hf1 : S.begin.find n = some f := by rw [begin_find]; exact hf
        obtain ⟨hmem, rfl⟩ := find_some hf1
        have HM := Lib.hid hmem
        have HF1 := Lib.hid hf1
        clear hf hmem
        go_enter Tryz.func96, Tryz.ntmps96
        go_wp2_with fail
        refine HB.out.mono ?_
        rintro e w1 ⟨rfl, h1, g1⟩
        have H1 := Lib.hid h1
        have G1 := Lib.hid g1
        have Hfo := Lib.hid (find_ok h1 hn hr hf1)
        clear h1 hf1 g1
        rw [hd]
        go_wp2_with fail
        refine Hfo.out.mono ?_
        rintro e w2 ⟨rfl, g2⟩
        have h2 := H1.out.ext g2
        have hc : w2.cell? ⟨d, 0, none⟩ = some (.map (some c.mb)) := h2.self.cell 0
        have hlen := butF_len H1.out.names HM.out
        have hfm := h2.fm
        rw [← hlen] at hfm
        have hnm : f.name.length ≤ maxLen := by unfold maxLen; omega
        have hin : Hid (domOf S.begin.fs c.fb f.name ≠ none) := by
          show domOf S.begin.fs c.fb f.name ≠ none
          unfold domOf
          rw [find_mem H1.out.names HM.out]; simp
        have H2 := Lib.hid h2
        have HFM := Lib.hid hfm
        have G2 := Lib.hid g2
        clear h2 hlen hfm g2 hd hr
        go_wp2_with (refine wp_fm_del1 rfl (.tmp 25) (.tmp 26) rfl HFM.out rfl hnm hin.out rfl ?_; intro w3 hm3 g3)
        have h3 := H2.out.less g3 hm3
        have hst := settle_all h3 f.name
        have HST := Lib.hid hst
        have H3 := Lib.hid h3
        have HT := Lib.hid h3.tL
        have C3 : Hid (Ch o w o w3) := ((Ch.of_gr G1.out (fun k e => by cases e; rw [H.out.tD]; simp)).trans (Ch.ext G2.out)).trans (Ch.of_gr g3 (fun k e => by cases e; rw [H2.out.tM]; simp))
        clear h3 hst hm3 g3
        go_wp2_with fail
        refine HST.out.mono ?_
        rintro e w4 ⟨rfl, hl4, g4⟩
        have h4 := H3.out.loose g4 hl4
        have H4 := Lib.hid h4
        have C4 : Hid (Ch o w o w4) := C3.out.trans (Ch.of_gr g4 (fun k e => by cases e; rw [HT.out]; simp))
        clear h4 hl4 g4
        go_wp2
        go_ret
        exact ⟨rfl, o, c, H4.out, C4.out⟩
end
end Go.Proofs.YtipankjajdpiiaaGreat

/- disk.Rename on a disk without loose sectors. -/
namespace Go.Proofs.YtipankjajdpiiaaGreat
open Go.RowKit Go.Maps
set_option maxRecDepth 100000
set_option maxHeartbeats 400000

/-- m[s] = p, where s is there: the map is no larger. -/
theorem wp_fm_put1 {w : World} {m n : Nat} {dom : List UInt8 → Option Nat} {ops : Array Oper} {rest : List Oper} {o : Oper} {a : Act} {Q : Exit → Act → World → Prop} (hg : o.guard = none) (mm x v : Operand) (hop : o.op = .mapUpdate 71 mm x v)
    (h : FM w m n dom) (hm : a.eval mm = .map (some m)) (hn : n < maxLen) {s : List UInt8} (hs : s.length ≤ maxLen) (hin : dom s ≠ none) (hx : a.eval x = .string ⟨s.toArray⟩) (b : Nat) (hv : a.eval v = .pointer (some ⟨b, 0, none⟩))
    (hK : ∀ w', FM w' m n (fun x => if x = s then some b else dom x) → w.grownBy w' (some m) → wpList Tryz.prog ops Q rest (a.put o.dst undef) w') : wpList Tryz.prog ops Q (o :: rest) a w := by
  obtain ⟨D, h, h0, h1⟩ := h
  obtain ⟨b0, hb0⟩ := Option.ne_none_iff_exists'.1 hin
  have hhas := (h1 s b0 hb0).2.1
  have hle := h.size_le
  have hty : Tidy D := World.ownsMap.tidy h Tryz.keyedS
  refine wpList_mapUpdate_own w hg mm x v _ hop 9 97 Tryz.keyedS Tryz.underlying71 ptrElem m n D hm h hn _ _ _ hx hv (keyS hs) (.lit (.int .i64 b)) [] rfl
    fun w' h' g' => hK w' (FM.of_put (FM.isMap h) h0 h1 hs b ?_) g'
  obtain ⟨es, clock, q1, q2, q3, q4⟩ := h'
  have h3 := Maps.size_put (k := .string s) hty (.lit (.int .i64 b))
  rw [hhas, if_pos rfl] at h3
  have hes : es.size ≤ n := by
    have : Maps.size (D.put (.string s) (.lit (.int .i64 b))) = es.size := by rw [q4]; simp [Maps.size, Go.length_sorted]
    omega
  exact ⟨es, clock, q1, q2, hes, q4⟩
/-- the file under its new name. -/
def Dk.took (S : Dk) (f : Fi) (tz : List UInt8) : Dk := { S with fs := butF S.fs tz ++ [⟨tz, f.now, f.lasts⟩] }
def reTag (o : Own1) (a b : List UInt8) : Own1 := fun i => (o i).map fun p => (p.1, if p.2 = a then b else p.2)
section
variable {w w' : World} {B d : Nat} {o : Own1} {S : Dk} {c : Con}
theorem reTag_none {a b : List UInt8} {i : Nat} (h : o i = none) : reTag o a b i = none := by unfold reTag; rw [h]; rfl
theorem reTag_some {a b : List UInt8} {i k : Nat} {s : List UInt8} (h : o i = some (k, s)) (hs : s ≠ a) : reTag o a b i = some (k, s) := by unfold reTag; rw [h]; simp [hs]
theorem reTag_hit {a b : List UInt8} {i k : Nat} (h : o i = some (k, a)) : reTag o a b i = some (k, b) := by unfold reTag; rw [h]; simp
theorem reTag_is {a b : List UInt8} {i : Nat} (h : reTag o a b i ≠ none) : o i ≠ none := fun e => h (reTag_none e)
theorem DI.took (h : DI w B o d S c) {f : Fi} (hf : FileR w B c f) (ht : TagR o c f) (hn : S.find f.name = none) (hf0 : f.name ≠ []) {tz : List UInt8} (htl : tz.length ≤ 24) (hg : w.grownBy w' (some c.mb))
    (hm : FM w' c.mb ((butF S.fs tz).length + 1) (fun x => if x = tz then some (c.fb f.name) else domOf S.fs c.fb x)) :
    ∃ c', DI w' B (reTag o f.name tz) d (S.took f tz) c' := by
  have hM := h.tM
  have hs : ∀ i, o i ≠ none → i ≠ c.mb → w'.heap[i]? = w.heap[i]? := fun i hi hd => hg.block i (h.inb i hi).2 (fun e => hd (by cases e; rfl))
  have hsT : ∀ {i} {t : Nat × List UInt8}, o i = some t → t ≠ (1, []) → w'.heap[i]? = w.heap[i]? := fun {i t} e ht2 => hs i (by rw [e]; simp) (fun e2 => by rw [e2, hM] at e; exact ht2 (Option.some.inj e).symm)
  have hne := find_none hn
  have h0f : ([] : List UInt8) ≠ f.name := fun e => hf0 e.symm
  obtain ⟨c', hc'⟩ : ∃ c' : Con, c' = { c with fb := fun s => if s = tz then c.fb f.name else c.fb s, nv := fun s => if s = tz then c.nv f.name else c.nv s, lv := fun s => if s = tz then c.lv f.name else c.lv s } := ⟨_, rfl⟩
  have e1 : ∀ s, s ≠ tz → c'.fb s = c.fb s ∧ c'.nv s = c.nv s ∧ c'.lv s = c.lv s := fun s hs => by rw [hc']; exact ⟨if_neg hs, if_neg hs, if_neg hs⟩
  have e2 : c'.fb tz = c.fb f.name ∧ c'.nv tz = c.nv f.name ∧ c'.lv tz = c.lv f.name := by rw [hc']; exact ⟨if_pos rfl, if_pos rfl, if_pos rfl⟩
  have e3 : c'.mb = c.mb ∧ c'.lb = c.lb := by rw [hc']; exact ⟨rfl, rfl⟩
  refine ⟨c', { self := ?_, fm := ?_, lm := ?_, file := fun g hg => ?_, tag := fun g hg => ?_, names := ?_, tD := reTag_some h.tD h0f, tM := by rw [e3.1]; exact reTag_some h.tM h0f, tL := by rw [e3.2]; exact reTag_some h.tL h0f, inb := fun i hi => ⟨(h.inb i (reTag_is hi)).1, Nat.lt_of_lt_of_le (h.inb i (reTag_is hi)).2 hg.size⟩, lim := h.lim }⟩
  · unfold selfC
    rw [e3.1, e3.2]
    exact h.self.same (hsT h.tD (by simp))
  · rw [e3.1]
    show FM w' c.mb (butF S.fs tz ++ [(⟨tz, f.now, f.lasts⟩ : Fi)]).length (domOf (butF S.fs tz ++ [(⟨tz, f.now, f.lasts⟩ : Fi)]) c'.fb)
    have : domOf (butF S.fs tz ++ [(⟨tz, f.now, f.lasts⟩ : Fi)]) c'.fb = fun x => if x = tz then some (c.fb f.name) else domOf S.fs c.fb x := by
      funext s
      unfold domOf
      rw [List.find?_append, butF_find]
      by_cases hs : s = tz
      · rw [if_pos hs, if_pos hs, hs]
        simp [e2.1]
      · rw [if_neg hs, if_neg hs]
        have : (tz == s) = false := by simpa using fun e => hs e.symm
        cases hq : S.fs.find? (fun f => f.name == s) with
        | none => simp [this]
        | some f => simp [(e1 s hs).1]
    rw [this]
    simpa using hm
  · rw [e3.2]; exact h.lm.same (hsT h.tL (by simp))
  · rcases List.mem_append.1 hg with hg | hg
    · obtain ⟨hg1, hg2⟩ := mem_butF hg
      obtain ⟨a1, a2, a3⟩ := e1 _ hg2
      have := (h.file g hg1).same (w' := w') (hsT (h.tag g hg1).file (by simp)) (fun k hk => hsT ((h.tag g hg1).now k hk) (by simp)) (fun k hk => hsT ((h.tag g hg1).lasts k hk) (by simp))
      refine ⟨?_, ?_, ?_, this.small⟩
      · rw [a1, a2, a3]; exact this.box
      · rw [a2]; exact this.now
      · rw [a3]; exact this.lasts
    · obtain rfl : g = ⟨tz, f.now, f.lasts⟩ := by simpa using hg
      have := hf.same (w' := w') (hsT ht.file (by simp)) (fun k hk => hsT (ht.now k hk) (by simp)) (fun k hk => hsT (ht.lasts k hk) (by simp))
      refine ⟨?_, ?_, ?_, htl, this.small.2.1, this.small.2.2⟩
      · show Blk w' (c'.fb tz) _ #[c'.nv tz, c'.lv tz]
        rw [e2.1, e2.2.1, e2.2.2]; exact this.box
      · show OwnB w' B (c'.nv tz) f.now
        rw [e2.2.1]; exact this.now
      · show OwnB w' B (c'.lv tz) f.lasts
        rw [e2.2.2]; exact this.lasts
  · rcases List.mem_append.1 hg with hg | hg
    · obtain ⟨hg1, hg2⟩ := mem_butF hg
      obtain ⟨a1, a2, a3⟩ := e1 _ hg2
      have hgn := hne g hg1
      have ht := h.tag g hg1
      exact ⟨by rw [a1]; exact reTag_some ht.file hgn, fun b hb => by rw [a2] at hb; exact reTag_some (ht.now b hb) hgn, fun b hb => by rw [a3] at hb; exact reTag_some (ht.lasts b hb) hgn⟩
    · obtain rfl : g = ⟨tz, f.now, f.lasts⟩ := by simpa using hg
      refine ⟨?_, fun b hb => ?_, fun b hb => ?_⟩
      · show reTag o f.name tz (c'.fb tz) = some (3, tz)
        rw [e2.1]; exact reTag_hit ht.file
      · have hb' : blk (c'.nv tz) = some b := hb
        rw [e2.2.1] at hb'
        exact reTag_hit (ht.now b hb')
      · have hb' : blk (c'.lv tz) = some b := hb
        rw [e2.2.2] at hb'
        exact reTag_hit (ht.lasts b hb')
  · show ((butF S.fs tz ++ [(⟨tz, f.now, f.lasts⟩ : Fi)]).map Fi.name).Nodup
    rw [List.map_append, List.nodup_append]
    refine ⟨List.Nodup.sublist (List.Sublist.map _ List.filter_sublist) h.names, by simp, fun a ha b hb => ?_⟩
    obtain ⟨g, hg, rfl⟩ := List.mem_map.1 ha
    have hb' : b = tz := by simpa using hb
    rw [hb']
    exact (mem_butF hg).2
/-- the same, told of a list of files. -/
theorem wp_fm_put2 {m : Nat} {fs : List Fi} {fb : List UInt8 → Nat} {ops : Array Oper} {rest : List Oper} {oo : Oper} {a : Act} {Q : Exit → Act → World → Prop} (hg : oo.guard = none) (mm x v : Operand) (hop : oo.op = .mapUpdate 71 mm x v)
    (hN : (fs.map Fi.name).Nodup) (h : FM w m fs.length (domOf fs fb)) (hm : a.eval mm = .map (some m)) (hn : fs.length ≤ 1000000) {s : List UInt8} (hs : s.length ≤ maxLen) (hx : a.eval x = .string ⟨s.toArray⟩) (b : Nat) (hv : a.eval v = .pointer (some ⟨b, 0, none⟩))
    (hK : ∀ w', FM w' m ((butF fs s).length + 1) (fun x => if x = s then some b else domOf fs fb x) → w.grownBy w' (some m) → wpList Tryz.prog ops Q rest (a.put oo.dst undef) w') : wpList Tryz.prog ops Q (oo :: rest) a w := by
  have hmx : fs.length < maxLen := by unfold maxLen; omega
  cases hq : fs.find? (fun f => f.name == s) with
  | none =>
    have e : butF fs s = fs := List.filter_eq_self.2 fun g hg => by
      rw [List.find?_eq_none] at hq
      have := hq g hg
      simpa using this
    rw [e] at hK
    exact wp_fm_put hg mm x v hop h hm hmx hs hx b hv hK
  | some g =>
    have hg1 := List.mem_of_find?_eq_some hq
    have hg2 : g.name = s := by simpa using List.find?_some hq
    have hl := butF_len hN hg1
    rw [hg2] at hl
    rw [hl] at hK
    exact wp_fm_put1 hg mm x v hop h hm hmx hs (by unfold domOf; rw [hq]; simp) hx b hv hK
theorem Ch.reTag {o0 : Own1} {w0 : World} (h : Ch o0 w0 o w) (a b : List UInt8) : Ch o0 w0 (reTag o a b) w := ⟨h.os, h.tape, h.output, h.size, h.block, fun i hi h0 => reTag_none (h.free i hi h0)⟩
def Dk.renamed (S : Dk) (f : Fi) (tz : List UInt8) : Dk := Dk.took { S with fs := butF S.fs f.name, loose := fun s k => S.loose s k && !(s == tz) } f tz
end
end Go.Proofs.YtipankjajdpiiaaGreat
