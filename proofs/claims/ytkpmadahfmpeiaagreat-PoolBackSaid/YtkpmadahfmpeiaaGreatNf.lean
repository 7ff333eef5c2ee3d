/-
  What lies on the disk behind a flush: plain.
-/
import Derived.Test.YtkpmadahfmpeiaaGreatGg
import Derived.Test.YtkpmadahfmpeiaaGreatGk
import Derived.Test.YtkpmadahfmpeiaaGreatRm
import Derived.Maps.OwnSet
import Derived.Sort.EncStr
import Derived.Test.YtkpmadahfmpeiaaGreatRg
namespace Go.Proofs.YtkpmadahfmpeiaaGreat
set_option maxRecDepth 100000

/-- a file's bytes: its pages, one behind the other. -/
def img (n : List UInt8) (ps : List (List UInt8)) : List UInt8 := ((List.range ps.length).map fun j => pagB (crcS n) j (ps.getD j [])).flatten
theorem flat_cut (c : Nat) : ∀ (m : Nat) (l : List UInt8), l.length = c * m → ((List.range m).map fun j => (l.drop (c * j)).take c).flatten = l
  | 0, l, h => by
    obtain rfl := List.eq_nil_of_length_eq_zero (by simpa using h)
    rfl
  | m + 1, l, h => by
    rw [List.range_succ_eq_map, List.map_cons, List.map_map, List.flatten_cons, Nat.mul_zero, List.drop_zero]
    have ih := flat_cut c m (l.drop c) (by rw [List.length_drop, h, Nat.mul_add]; omega)
    have e : (List.range m).map ((fun j => (l.drop (c * j)).take c) ∘ Nat.succ) = (List.range m).map fun j => ((l.drop c).drop (c * j)).take c := List.map_congr_left fun j _ => by
      show (l.drop (c * (j + 1))).take c = _
      rw [List.drop_drop, Nat.mul_add, Nat.mul_one, Nat.add_comm]
    rw [e, ih, List.take_append_drop]
section
variable {q N m : Nat} {Q : Pm} {S : Dk} {F : List Fz} {G : List Ge} {fr : List Fr}
theorem AbG.flushed (h : AbG q N fr S G) {x : Ge} (hx : x ∈ G) (hc : ∀ (i : Nat) (f : Fr), fr[i]? = some f → f.full = true → f.n = x.fi.name → f.dirty = false) : x.m = x.pages.length ∧ x.fi.now = img x.fi.name x.pages := by
  have ho := h.ok x hx
  have hnd : ∀ j, ¬ dirtyAt fr x.fi.name j := fun j ⟨i, f, k1, k2, k3, k4, _⟩ => by
    rw [hc i f k1 k2 k4] at k3; cases k3
  have hm : x.m = x.pages.length := by
    have := ho.le
    rcases Nat.lt_or_ge x.m x.pages.length with h9 | h9
    · exact absurd (ho.new x.m (Nat.le_refl _) h9) (hnd _)
    · omega
  refine ⟨hm, ?_⟩
  have hl := ho.len
  rw [← flat_cut 256 x.m x.fi.now hl]
  unfold img
  rw [← hm]
  congr 1
  refine List.map_congr_left fun j hj => ?_
  have hj2 : j < x.m := List.mem_range.1 hj
  have hb : x.pages[j]? = some (x.pages.getD j []) := by rw [List.getD_eq_getElem?_getD, List.getElem?_eq_getElem (by omega)]; rfl
  exact ho.at_ j _ hj2 hb (hnd j)
/-- the files' names. -/
def namesF (F : List Fz) : List (List UInt8) := F.map Fz.name
theorem names_fz (h : AbG q N fr S G) : S.fs.map Fi.name = namesF (G.map Ge.fz) := by
  rw [h.fs]
  unfold namesF
  rw [List.map_map, List.map_map]; rfl
theorem Ab.nowOf (h : Ab q N Q S F) {n : List UInt8} (hn : n ∈ namesF F) (hc : Flushed Q S n) : S.nowOf n = img n (aPg F n) := by
  obtain ⟨G, hG, rfl⟩ := h.ex
  unfold namesF at hn
  rw [List.map_map] at hn
  obtain ⟨x, hx, rfl⟩ := List.mem_map.1 hn
  have hf := hG.find hx
  obtain ⟨-, e⟩ := hG.flushed hx hc.clean
  have e2 : aPg (G.map Ge.fz) x.fi.name = x.pages := by unfold aPg; rw [fg_some hG hx]; rfl
  show S.nowOf x.fi.name = img x.fi.name (aPg (G.map Ge.fz) x.fi.name)
  rw [e2, nowOf_some hf, e]
theorem Ab.clean (h : Ab q N Q S F) (hc : ∀ n ∈ namesF F, Flushed Q S n) : heldN Fr.dirty Q.fr = 0 := by
  obtain ⟨G, hG, rfl⟩ := h.ex
  unfold heldN
  rw [List.filter_eq_nil_iff.2]
  · rfl
  · intro f hf hd
    obtain ⟨i, hi, e⟩ := List.mem_iff_getElem.1 hf
    have hfi : Q.fr[i]? = some f := by rw [List.getElem?_eq_getElem hi, e]
    cases hfull : f.full with
    | false => rw [hG.low i f hfi hfull] at hd; cases hd
    | true =>
      obtain ⟨x, hx, e1, -⟩ := hG.held i f hfi hfull
      have hm : f.n ∈ namesF (G.map Ge.fz) := by
        unfold namesF
        rw [List.map_map]
        exact List.mem_map.2 ⟨x, hx, e1⟩
      rw [(hc f.n hm).clean i f hfi hfull rfl] at hd; cases hd
theorem Ab.tight (h : Ab q N Q S F) (hl : LooseIn S) (hc : ∀ n ∈ namesF F, Flushed Q S n) (s : List UInt8) (k : Int) : S.loose s k = false := by
  cases e : S.loose s k with
  | false => rfl
  | true =>
    obtain ⟨f, hf, -⟩ := hl s k e
    obtain ⟨G, hG, rfl⟩ := h.ex
    have hm : s ∈ namesF (G.map Ge.fz) := by
      rw [← names_fz hG]
      exact List.mem_map.2 ⟨f, (find_some hf).1, (find_some hf).2⟩
    rw [(hc s hm).loose k] at e; cases e
theorem flushed_drop (h : Ab q N Q S F) {n s : List UInt8} (hs : s ≠ n) (hf : Flushed Q S s) : Flushed (Q.drop S n).Q (Q.drop S n).S s := by
  obtain ⟨G, hG, rfl⟩ := h.ex
  unfold Pm.drop
  split
  · exact hf
  · refine ⟨fun i f hfi h1 h2 => ?_, fun k => ?_, fun f hfi => ?_⟩
    · have hf2 : (Q.fr.map fun f => if ofN n f then fr0 else f)[i]? = some f := hfi
      rw [List.getElem?_map] at hf2
      cases hq : Q.fr[i]? with
      | none => rw [hq] at hf2; cases hf2
      | some g =>
        rw [hq] at hf2
        have e : (if ofN n g then fr0 else g) = f := by simpa using hf2
        by_cases hg : ofN n g = true
        · rw [if_pos hg] at e; subst e; rfl
        · rw [if_neg hg] at e; subst e; exact hf.clean i g hq h1 h2
    · show (S.remove n).1.loose s k = false
      unfold Dk.remove
      rw [hG.idle.begin]
      split
      · exact hf.loose k
      · split
        · exact hf.loose k
        · cases S.find n with
          | none => exact hf.loose k
          | some g =>
            show (S.loose s k && !(s == n)) = false
            rw [hf.loose k]; rfl
    · have hfi2 : (S.remove n).1.find s = some f := hfi
      have : S.find s = some f := by
        unfold Dk.remove at hfi2
        rw [hG.idle.begin] at hfi2
        split at hfi2
        · exact hfi2
        · split at hfi2
          · exact hfi2
          · cases hn : S.find n with
            | none => rw [hn] at hfi2; exact hfi2
            | some g =>
              rw [hn] at hfi2
              have h9 : (butF S.fs n).find? (fun f => f.name == s) = some f := hfi2
              rw [butF_find, if_neg hs] at h9
              exact h9
      exact hf.lasts f this
end
end Go.Proofs.YtkpmadahfmpeiaaGreat

/- disk.Rename on a disk without loose sectors. -/
namespace Go.Proofs.YtkpmadahfmpeiaaGreat
open Go.RowKit Go.Maps
set_option maxRecDepth 100000
set_option maxHeartbeats 400000

/-- m[s] = p, where s is there: the map is no larger. -/
theorem wp_fm_put1 {w : World} {m n : Nat} {dom : List UInt8 → Option Nat} {ops : Array Oper} {rest : List Oper} {o : Oper} {a : Act} {Q : Exit → Act → World → Prop} (hg : o.guard = none) (mm x v : Operand) (hop : o.op = .mapUpdate 106 mm x v)
    (h : FM w m n dom) (hm : a.eval mm = .map (some m)) (hn : n < maxLen) {s : List UInt8} (hs : s.length ≤ maxLen) (hin : dom s ≠ none) (hx : a.eval x = .string ⟨s.toArray⟩) (b : Nat) (hv : a.eval v = .pointer (some ⟨b, 0, none⟩))
    (hK : ∀ w', FM w' m n (fun x => if x = s then some b else dom x) → w.grownBy w' (some m) → wpList Tryz.prog ops Q rest (a.put o.dst undef) w') : wpList Tryz.prog ops Q (o :: rest) a w := by
  obtain ⟨D, h, h0, h1⟩ := h
  obtain ⟨b0, hb0⟩ := Option.ne_none_iff_exists'.1 hin
  have hhas := (h1 s b0 hb0).2.1
  have hle := h.size_le
  have hty : Tidy D := World.ownsMap.tidy h Tryz.keyedS
  refine wpList_mapUpdate_own w hg mm x v _ hop 9 122 Tryz.keyedS Tryz.underlying106 ptrElem m n D hm h hn _ _ _ hx hv (keyS hs) (.lit (.int .i64 b)) [] rfl
    fun w' h' g' => hK w' (FM.of_put (FM.isMap h) h0 h1 hs b ?_) g'
  obtain ⟨es, clock, q1, q2, q3, q4⟩ := h'
  have h3 := Maps.size_put (k := .string s) hty (.lit (.int .i64 b))
  rw [hhas, if_pos rfl] at h3
  have hes : es.size ≤ n := by
    have : Maps.size (D.put (.string s) (.lit (.int .i64 b))) = es.size := by rw [q4]; simp [Maps.size, Go.length_sorted]
    omega
  exact ⟨es, clock, q1, q2, hes, q4⟩
/-- the file under its new name. -/
def Dk.took (S : Dk) (f : Fi) (tz : List UInt8) : Dk := { S with fs := butF S.fs tz ++ [⟨tz, f.now, f.lasts⟩] }
def reTag (o : Own1) (a b : List UInt8) : Own1 := fun i => (o i).map fun p => (p.1, if p.2 = a then b else p.2)
section
variable {w w' : World} {B d : Nat} {o : Own1} {S : Dk} {c : Con}
theorem reTag_none {a b : List UInt8} {i : Nat} (h : o i = none) : reTag o a b i = none := by unfold reTag; rw [h]; rfl
theorem reTag_some {a b : List UInt8} {i k : Nat} {s : List UInt8} (h : o i = some (k, s)) (hs : s ≠ a) : reTag o a b i = some (k, s) := by unfold reTag; rw [h]; simp [hs]
theorem reTag_hit {a b : List UInt8} {i k : Nat} (h : o i = some (k, a)) : reTag o a b i = some (k, b) := by unfold reTag; rw [h]; simp
theorem reTag_is {a b : List UInt8} {i : Nat} (h : reTag o a b i ≠ none) : o i ≠ none := fun e => h (reTag_none e)
theorem DI.took (h : DI w B o d S c) {f : Fi} (hf : FileR w B c f) (ht : TagR o c f) (hn : S.find f.name = none) (hf0 : f.name ≠ []) {tz : List UInt8} (htl : tz.length ≤ 24) (hg : w.grownBy w' (some c.mb))
    (hm : FM w' c.mb ((butF S.fs tz).length + 1) (fun x => if x = tz then some (c.fb f.name) else domOf S.fs c.fb x)) :
    ∃ c', DI w' B (reTag o f.name tz) d (S.took f tz) c' := by
  have hM := h.tM
  have hs : ∀ i, o i ≠ none → i ≠ c.mb → w'.heap[i]? = w.heap[i]? := fun i hi hd => hg.block i (h.inb i hi).2 (fun e => hd (by cases e; rfl))
  have hsT : ∀ {i} {t : Nat × List UInt8}, o i = some t → t ≠ (1, []) → w'.heap[i]? = w.heap[i]? := fun {i t} e ht2 => hs i (by rw [e]; simp) (fun e2 => by rw [e2, hM] at e; exact ht2 (Option.some.inj e).symm)
  have hne := find_none hn
  have h0f : ([] : List UInt8) ≠ f.name := fun e => hf0 e.symm
  obtain ⟨c', hc'⟩ : ∃ c' : Con, c' = { c with fb := fun s => if s = tz then c.fb f.name else c.fb s, nv := fun s => if s = tz then c.nv f.name else c.nv s, lv := fun s => if s = tz then c.lv f.name else c.lv s } := ⟨_, rfl⟩
  have e1 : ∀ s, s ≠ tz → c'.fb s = c.fb s ∧ c'.nv s = c.nv s ∧ c'.lv s = c.lv s := fun s hs => by rw [hc']; exact ⟨if_neg hs, if_neg hs, if_neg hs⟩
  have e2 : c'.fb tz = c.fb f.name ∧ c'.nv tz = c.nv f.name ∧ c'.lv tz = c.lv f.name := by rw [hc']; exact ⟨if_pos rfl, if_pos rfl, if_pos rfl⟩
  have e3 : c'.mb = c.mb ∧ c'.lb = c.lb := by rw [hc']; exact ⟨rfl, rfl⟩
  refine ⟨c', { self := ?_, fm := ?_, lm := ?_, file := fun g hg => ?_, tag := fun g hg => ?_, names := ?_, tD := reTag_some h.tD h0f, tM := by rw [e3.1]; exact reTag_some h.tM h0f, tL := by rw [e3.2]; exact reTag_some h.tL h0f, inb := fun i hi => ⟨(h.inb i (reTag_is hi)).1, Nat.lt_of_lt_of_le (h.inb i (reTag_is hi)).2 hg.size⟩, lim := h.lim }⟩
  · unfold selfC
    rw [e3.1, e3.2]
    exact h.self.same (hsT h.tD (by simp))
  · rw [e3.1]
    show FM w' c.mb (butF S.fs tz ++ [(⟨tz, f.now, f.lasts⟩ : Fi)]).length (domOf (butF S.fs tz ++ [(⟨tz, f.now, f.lasts⟩ : Fi)]) c'.fb)
    have : domOf (butF S.fs tz ++ [(⟨tz, f.now, f.lasts⟩ : Fi)]) c'.fb = fun x => if x = tz then some (c.fb f.name) else domOf S.fs c.fb x := by
      funext s
      unfold domOf
      rw [List.find?_append, butF_find]
      by_cases hs : s = tz
      · rw [if_pos hs, if_pos hs, hs]
        simp [e2.1]
      · rw [if_neg hs, if_neg hs]
        have : (tz == s) = false := by simpa using fun e => hs e.symm
        cases hq : S.fs.find? (fun f => f.name == s) with
        | none => simp [this]
        | some f => simp [(e1 s hs).1]
    rw [this]
    simpa using hm
  · rw [e3.2]; exact h.lm.same (hsT h.tL (by simp))
  · rcases List.mem_append.1 hg with hg | hg
    · obtain ⟨hg1, hg2⟩ := mem_butF hg
      obtain ⟨a1, a2, a3⟩ := e1 _ hg2
      have := (h.file g hg1).same (w' := w') (hsT (h.tag g hg1).file (by simp)) (fun k hk => hsT ((h.tag g hg1).now k hk) (by simp)) (fun k hk => hsT ((h.tag g hg1).lasts k hk) (by simp))
      refine ⟨?_, ?_, ?_, this.small⟩
      · rw [a1, a2, a3]; exact this.box
      · rw [a2]; exact this.now
      · rw [a3]; exact this.lasts
    · obtain rfl : g = ⟨tz, f.now, f.lasts⟩ := by simpa using hg
      have := hf.same (w' := w') (hsT ht.file (by simp)) (fun k hk => hsT (ht.now k hk) (by simp)) (fun k hk => hsT (ht.lasts k hk) (by simp))
      refine ⟨?_, ?_, ?_, htl, this.small.2.1, this.small.2.2⟩
      · show Blk w' (c'.fb tz) _ #[c'.nv tz, c'.lv tz]
        rw [e2.1, e2.2.1, e2.2.2]; exact this.box
      · show OwnB w' B (c'.nv tz) f.now
        rw [e2.2.1]; exact this.now
      · show OwnB w' B (c'.lv tz) f.lasts
        rw [e2.2.2]; exact this.lasts
  · rcases List.mem_append.1 hg with hg | hg
    · obtain ⟨hg1, hg2⟩ := mem_butF hg
      obtain ⟨a1, a2, a3⟩ := e1 _ hg2
      have hgn := hne g hg1
      have ht := h.tag g hg1
      exact ⟨by rw [a1]; exact reTag_some ht.file hgn, fun b hb => by rw [a2] at hb; exact reTag_some (ht.now b hb) hgn, fun b hb => by rw [a3] at hb; exact reTag_some (ht.lasts b hb) hgn⟩
    · obtain rfl : g = ⟨tz, f.now, f.lasts⟩ := by simpa using hg
      refine ⟨?_, fun b hb => ?_, fun b hb => ?_⟩
      · show reTag o f.name tz (c'.fb tz) = some (3, tz)
        rw [e2.1]; exact reTag_hit ht.file
      · have hb' : blk (c'.nv tz) = some b := hb
        rw [e2.2.1] at hb'
        exact reTag_hit (ht.now b hb')
      · have hb' : blk (c'.lv tz) = some b := hb
        rw [e2.2.2] at hb'
        exact reTag_hit (ht.lasts b hb')
  · show ((butF S.fs tz ++ [(⟨tz, f.now, f.lasts⟩ : Fi)]).map Fi.name).Nodup
    rw [List.map_append, List.nodup_append]
    refine ⟨List.Nodup.sublist (List.Sublist.map _ List.filter_sublist) h.names, by simp, fun a ha b hb => ?_⟩
    obtain ⟨g, hg, rfl⟩ := List.mem_map.1 ha
    have hb' : b = tz := by simpa using hb
    rw [hb']
    exact (mem_butF hg).2
/-- the same, told of a list of files. -/
theorem wp_fm_put2 {m : Nat} {fs : List Fi} {fb : List UInt8 → Nat} {ops : Array Oper} {rest : List Oper} {oo : Oper} {a : Act} {Q : Exit → Act → World → Prop} (hg : oo.guard = none) (mm x v : Operand) (hop : oo.op = .mapUpdate 106 mm x v)
    (hN : (fs.map Fi.name).Nodup) (h : FM w m fs.length (domOf fs fb)) (hm : a.eval mm = .map (some m)) (hn : fs.length ≤ 1000000) {s : List UInt8} (hs : s.length ≤ maxLen) (hx : a.eval x = .string ⟨s.toArray⟩) (b : Nat) (hv : a.eval v = .pointer (some ⟨b, 0, none⟩))
    (hK : ∀ w', FM w' m ((butF fs s).length + 1) (fun x => if x = s then some b else domOf fs fb x) → w.grownBy w' (some m) → wpList Tryz.prog ops Q rest (a.put oo.dst undef) w') : wpList Tryz.prog ops Q (oo :: rest) a w := by
  have hmx : fs.length < maxLen := by unfold maxLen; omega
  cases hq : fs.find? (fun f => f.name == s) with
  | none =>
    have e : butF fs s = fs := List.filter_eq_self.2 fun g hg => by
      rw [List.find?_eq_none] at hq
      have := hq g hg
      simpa using this
    rw [e] at hK
    exact wp_fm_put hg mm x v hop h hm hmx hs hx b hv hK
  | some g =>
    have hg1 := List.mem_of_find?_eq_some hq
    have hg2 : g.name = s := by simpa using List.find?_some hq
    have hl := butF_len hN hg1
    rw [hg2] at hl
    rw [hl] at hK
    exact wp_fm_put1 hg mm x v hop h hm hmx hs (by unfold domOf; rw [hq]; simp) hx b hv hK
theorem Ch.reTag {o0 : Own1} {w0 : World} (h : Ch o0 w0 o w) (a b : List UInt8) : Ch o0 w0 (reTag o a b) w := ⟨h.os, h.tape, h.output, h.size, h.block, fun i hi h0 => reTag_none (h.free i hi h0)⟩
def Dk.renamed (S : Dk) (f : Fi) (tz : List UInt8) : Dk := Dk.took { S with fs := butF S.fs f.name, loose := fun s k => S.loose s k && !(s == tz) } f tz
end
end Go.Proofs.YtkpmadahfmpeiaaGreat

/- disk.Names: the names collected. -/
namespace Go.Proofs.YtkpmadahfmpeiaaGreat
open Go.RowKit
set_option maxRecDepth 100000
set_option maxHeartbeats 400000

theorem Tryz.infoStr : (Tryz.prog.info? 9).map (fun i => (i.zero, i.size, i.bytes)) = some (some (.string ⟨#[]⟩), 1, 16) := by kernel_rfl
def strL (l : List (List UInt8)) : List Value := l.map fun s => .string ⟨s.toArray⟩
theorem strL_app (l m : List (List UInt8)) : strL (l ++ m) = strL l ++ strL m := by simp [strL]
theorem strL_len (l : List (List UInt8)) : (strL l).length = l.length := by simp [strL]
abbrev OwnS (w : World) (B : Nat) (v : Value) (l : List (List UInt8)) : Prop := Own w B 1 v l.length (strL l)
theorem OwnS.form {w : World} {B : Nat} {v : Value} {l : List (List UInt8)} (h : OwnS w B v l) : ∃ A c, v = .slice A l.length c := by obtain ⟨_, A, c, _, _, e, _⟩ := h; exact ⟨A, c, e⟩
/-- append(v, s). -/
theorem wp_app1S {ops : Array Oper} {rest : List Oper} {o : Oper} {a : Act} {Q : Exit → Act → World → Prop} {w : World} (r : List UInt8) (C : Array Value) (hC : C.toList = strL [r]) (hgd : o.guard = none) (s0 x0 : Operand)
    (ho : o.op = .call { callee := .builtin .append, args := #[s0, x0], argTypes := #[93, 93] }) {B : Nat} {v : Value} {l : List (List UInt8)} (hs : a.eval s0 = v) (hown : OwnS w B v l)
    (g : Nat) (hx : a.eval x0 = .slice (some ⟨g, 0, none⟩) 1 1) (hg : g = w.heap.size) (hn : l.length ≤ 1000000000) (hB : B ≤ w.heap.size)
    (h : ∀ v' w', OwnS w' B v' (l ++ [r]) → w.grownBy w' v.ownBlock → (v'.ownBlock = v.ownBlock ∨ ∃ k, v'.ownBlock = some k ∧ w.heap.size ≤ k) → wpList Tryz.prog ops Q rest (a.put o.dst v') w') :
    wpList Tryz.prog ops Q (o :: rest) a (w.alloc (.cells C 9)) := by
  subst hg
  have hC3 : C.size = 1 := by rw [← Array.length_toList, hC]; rfl
  exact wp_app1 w C hgd s0 x0 _ ho B 9 _ 1 16 Tryz.underlying93 Tryz.infoStr rfl (by omega) v _ _ hs hown hx hC3 (by rw [hC]; intro u hu; simp [strL] at hu; subst hu; rfl) (by unfold maxLen; omega) (by omega) hB
    fun v' w' h1 h2 h3 => h v' w' (by unfold OwnS; rw [List.length_append, strL_app, ← hC]; exact h1) h2 h3
/-- the names met so far. -/
def Met (dom : List UInt8 → Option Nat) (left : List UInt8 → Bool) (l : List (List UInt8)) : Prop := l.Nodup ∧ ∀ s, s ∈ l ↔ (dom s).isSome = true ∧ left s = false
theorem Met.start {dom : List UInt8 → Option Nat} {left : List UInt8 → Bool} (h : ∀ s b, dom s = some b → left s = true) : Met dom left [] := ⟨List.nodup_nil, fun s => ⟨(fun h => by cases h), fun ⟨h1, h2⟩ => by
  obtain ⟨b, hb⟩ := Option.isSome_iff_exists.1 h1
  rw [h s b hb] at h2
  cases h2⟩⟩
theorem Met.step {dom : List UInt8 → Option Nat} {left : List UInt8 → Bool} {l : List (List UInt8)} (h : Met dom left l) {s : List UInt8} {b : Nat} (hl : left s = true) (hd : dom s = some b) : Met dom (fun x => left x && !(x == s)) (l ++ [s]) := by
  have hn : s ∉ l := fun hm => by have := ((h.2 s).1 hm).2; rw [hl] at this; cases this
  refine ⟨List.nodup_append.2 ⟨h.1, by simp, fun a ha c hc => by rw [List.mem_singleton.1 hc]; exact fun e => hn (e ▸ ha)⟩, fun x => ?_⟩
  rw [List.mem_append, List.mem_singleton, h.2]
  by_cases e : x = s
  · subst e
    simp [hd]
  · simp [e]
theorem Met.done {fs : List Fi} {fb : List UInt8 → Nat} {left : List UInt8 → Bool} {l : List (List UInt8)} (h : Met (domOf fs fb) left l) (hl : ∀ s, left s = false) (hN : (fs.map Fi.name).Nodup) : l.Perm (fs.map Fi.name) := by
  rw [List.perm_ext_iff_of_nodup h.1 hN]
  intro s
  rw [h.2, List.mem_map]
  unfold domOf
  constructor
  · rintro ⟨h1, _⟩
    cases hq : fs.find? (fun f => f.name == s) with
    | none => rw [hq] at h1; cases h1
    | some f => exact ⟨f, List.mem_of_find?_eq_some hq, by simpa using List.find?_some hq⟩
  · rintro ⟨f, hf, rfl⟩
    rw [find_mem hN hf]
    exact ⟨rfl, hl _⟩
end Go.Proofs.YtkpmadahfmpeiaaGreat

/- disk.Names: the walk (slices.Sort at []string as a hypothesis). -/
namespace Go.Proofs.YtkpmadahfmpeiaaGreat
open Go.RowKit
set_option maxRecDepth 100000
set_option maxHeartbeats 400000

/-- sorted names. -/
def sortN (l : List (List UInt8)) : List (List UInt8) := l.mergeSort fun x y => decide (x ≤ y)
theorem sortN_up (l : List (List UInt8)) : (sortN l).Pairwise fun x y => x ≤ y := by
  have h := List.pairwise_mergeSort (le := fun x y : List UInt8 => decide (x ≤ y)) (fun a b c h1 h2 => by
    simp only [decide_eq_true_eq] at *
    exact List.le_trans h1 h2) (fun a b => by
    simp only [Bool.or_eq_true, decide_eq_true_eq]
    exact List.le_total a b) l
  exact h.imp fun h => by simpa using h
theorem sortN_prm (l : List (List UInt8)) : (sortN l).Perm l := List.mergeSort_perm l _
theorem sortN_eq {l m : List (List UInt8)} (h : l.Perm m) : sortN l = sortN m :=
  List.Perm.eq_of_pairwise (le := fun x y => x ≤ y) (fun _ _ _ _ h1 h2 => List.le_antisymm h1 h2) (sortN_up l) (sortN_up m) (((sortN_prm l).trans h).trans (sortN_prm m).symm)
theorem sortN_nil : sortN [] = [] := by simp [sortN]
/-- nothing is sorted. -/
def SortS0 : Prop := ∀ (w : World), Calls Tryz.prog 94 #[.slice none 0 0] w fun e w' => e = .returned (.tuple #[]) ∧ w.grownBy w' none
/-- slices.Sort at []string. -/
def SortS1 : Prop := ∀ (v : Value) (l : List (List UInt8)) (B : Nat) (w : World), OwnS w B v l → l.length ≤ 1000000 → 0 < l.length → Calls Tryz.prog 94 #[v] w fun e w' => e = .returned (.tuple #[]) ∧ OwnS w' B v (sortN l) ∧ w.grownBy w' v.ownBlock
def SortS : Prop := SortS1 ∧ SortS0
section
variable {w : World} {B d : Nat} {o : Own1} {S : Dk} {c : Con}
set_option maxHeartbeats 4000000 in
theorem names_gen (HS : SortS) (h : DI w B o d S c) (hfl : S.fs.length ≤ 1000000) :
    Calls Tryz.prog 39 #[.pointer (some ⟨d, 0, none⟩)] w fun e w' => ∃ v, e = .returned v ∧ OwnS w' w.heap.size v (sortN (S.fs.map Fi.name)) ∧ w.grownBy w' none := by
  have hc : w.cell? ⟨d, 0, none⟩ = some (.map (some c.mb)) := h.self.cell 0
  have HF := Lib.hid h.fm
  have HN := Lib.hid h.names
  have hmb : c.mb < w.heap.size := (h.inb _ (by rw [h.tM]; simp)).2
  have HHS := Lib.hid HS.1
  have HHS0 := Lib.hid HS.2
  clear h HS
  go_enter Tryz.func39, Tryz.ntmps39
  go_wp2_with (at_range; refine wp_fm_range rfl _ rfl HF.out rfl ?_; intro w0 left0 cnt0 hfr hlft g0 hz0)
  go_frame
  have HFR := Lib.hid hfr
  have HM0 : Hid (Met (domOf S.fs c.fb) left0 []) := Met.start hlft
  have G0 := Lib.hid g0
  have hle : Hid (cnt0 ≤ cnt0) := Nat.le_refl cnt0
  clear hfr hlft g0
  go_loopw [3] (fun v wr => ∃ (left : List UInt8 → Bool) (cnt : Nat) (l : List (List UInt8)), FR wr c.mb w.heap.size S.fs.length (domOf S.fs c.fb) left cnt ∧ Hid (OwnS wr (w.heap.size + 1) v l ∧ (l = [] → v = .slice none 0 0)) ∧ Hid (Met (domOf S.fs c.fb) left l) ∧ w.grownBy wr none ∧ w.heap.size + 1 ≤ wr.heap.size) (fun _ wr => wr.rangeLeft c.mb w.heap.size)
  case atStart => exact ⟨_, _, [], HFR.out, ⟨Own.nil _ _ _, fun _ => rfl⟩, HM0.out, G0.out, by omega⟩
  case round =>
    obtain ⟨left, cnt, l, hfr, ho, hm, hg, hz⟩ := hrel
    have hlf := hfr.left_eq
    have HLF := Lib.hid hlf
    have HG := Lib.hid hg
    have HE0 := Lib.hid ho.out.2
    have ho' : Hid (OwnS wr (w.heap.size + 1) _ l) := ho.out.1
    clear ho
    have ho := ho'
    clear ho'
    obtain ⟨A1, c1, rfl⟩ := OwnS.form ho.out
    clear HFR hlf hg
    go_wp2_with (at_next; refine wp_fm_next rfl _ rfl hfr rfl ?_ ?_)
    · intro h0 hl0
      have HP : Hid (l.Perm (S.fs.map Fi.name)) := hm.out.done hl0 HN.out
      have hlen : l.length ≤ 1000000 := by have := HP.out.length_eq; simp at this; omega
      by_cases hl00 : l.length = 0
      · obtain rfl := List.eq_nil_of_length_eq_zero hl00
        have hv := HE0.out rfl
        rw [hv] at ho ⊢
        have HSO := Lib.hid (HHS0.out wr)
        have HEQ : Hid (sortN (S.fs.map Fi.name) = []) := by show _ = _; rw [← sortN_eq HP.out, sortN_nil]
        clear h0 hl0 hfr hm hl00 hv
        go_wp2_with fail
        refine HSO.out.mono ?_
        rintro e w5 ⟨rfl, g5⟩
        have G5 := Lib.hid (gr_none HG.out g5)
        clear g5
        go_wp2
        go_ret
        exact ⟨_, rfl, by rw [HEQ.out]; exact Own.nil _ _ _, G5.out⟩
      · have HSO := Lib.hid (HHS.out _ l _ wr ho.out hlen (by omega))
        have HEQ : Hid (sortN l = sortN (S.fs.map Fi.name)) := sortN_eq HP.out
        clear h0 hl0 hfr hm hl00
        go_wp2_with fail
        refine HSO.out.mono ?_
        rintro e w5 ⟨rfl, o5, g5⟩
        obtain ⟨nq, hnq⟩ : ∃ nq, nq = l.length := ⟨_, rfl⟩
        have O5 := Lib.hid o5
        have G5 := Lib.hid (gr_trans HG.out g5 (.inr fun q e => Nat.le_trans (Nat.le_succ _) (Own.lt ho.out q e)))
        clear o5 g5
        go_wp2
        go_ret
        exact ⟨_, rfl, by rw [← HEQ.out]; exact Own.mono O5.out (Nat.le_succ _), G5.out⟩
    · intro s b w2 cnt2 hls hds hfr2 hlt2 g2 hz2 hen
      have HM2 : Hid (Met (domOf S.fs c.fb) (fun x => left x && !(x == s)) (l ++ [s])) := hm.out.step hls hds
      have HFR2 := Lib.hid hfr2
      have HO2 := Lib.hid (Own.gr ho.out g2 (fun k e h1 => by cases e; have := Own.lt ho.out _ h1; omega))
      have HG2 := Lib.hid (gr_trans HG.out g2 (.inr fun q e => by cases e; exact Nat.le_refl _))
      have hzz : w.heap.size + 1 ≤ w2.heap.size := by omega
      have hlen : l.length ≤ 1000000 := by
        have h1 := hm.out.1.length_le_of_subset (l₂ := S.fs.map Fi.name) fun y hy => by
          obtain ⟨f, hf⟩ := Option.isSome_iff_exists.1 ((hm.out.2 y).1 hy).1
          unfold domOf at hf
          cases hq : S.fs.find? (fun f => f.name == y) with
          | none => rw [hq] at hf; cases hf
          | some f => exact List.mem_map.2 ⟨f, List.mem_of_find?_eq_some hq, by simpa using List.find?_some hq⟩
        simp at h1
        omega
      clear hfr hls hds hfr2 g2 hm hz2
      go_wp2_with (at_builtin; refine wp_app1S (w := w2) (B := w.heap.size + 1) s _ rfl rfl (.tmp 16) (.tmp 18) rfl rfl HO2.out _ rfl rfl (by omega) hzz ?_; intro v6 w6 h6 g6 a6)
      have H6 : Hid (OwnS w6 (w.heap.size + 1) v6 (l ++ [s]) ∧ (l ++ [s] = [] → v6 = .slice none 0 0)) := ⟨h6, fun e => by simp at e⟩
      have hg6 : w.grownBy w6 none := gr_trans HG2.out g6 (.inr fun q e => Nat.le_trans (Nat.le_succ _) (Own.lt HO2.out q e))
      have hr6 : FR w6 c.mb w.heap.size S.fs.length (domOf S.fs c.fb) (fun x => left x && !(x == s)) cnt2 := HFR2.out.gr g6 (fun e => by have := Own.lt HO2.out _ e; have := hmb; omega) (fun e => by have := Own.lt HO2.out _ e; omega)
      have hz6 := g6.size
      go_roundw
      case rel => exact ⟨_, _, _, hr6, H6, HM2, hg6, by omega⟩
      case measure => rw [HLF.out, hr6.left_eq]; exact hlt2
theorem names_any (HS : SortS) (h : DI w B o d S c) (hfl : S.fs.length ≤ 1000000) (_hfp : 0 < S.fs.length) :
    Calls Tryz.prog 39 #[.pointer (some ⟨d, 0, none⟩)] w fun e w' => ∃ v l, e = .returned v ∧ OwnS w' w.heap.size v l ∧ l.Perm (S.fs.map Fi.name) ∧ w.grownBy w' none :=
  (names_gen HS h hfl).mono fun _ _ ⟨v, e1, k1, k2⟩ => ⟨v, _, e1, k1, sortN_prm _, k2⟩
end
end Go.Proofs.YtkpmadahfmpeiaaGreat

/- Rename and Names, seen from an older world; fileOf's words. -/
namespace Go.Proofs.YtkpmadahfmpeiaaGreat
open Go.RowKit
set_option maxRecDepth 100000
section
variable {w0 w : World} {d : Nat} {o : Own1} {S : Dk}
end
end Go.Proofs.YtkpmadahfmpeiaaGreat

/- Files in memory; fileOf. -/
namespace Go.Proofs.YtkpmadahfmpeiaaGreat
open Go.RowKit
set_option maxRecDepth 100000
set_option maxHeartbeats 400000

structure Fl where
  n : List UInt8
  b : List UInt8
  s : Value
def Fl.enc (x : Fl) : List Value := [.string ⟨x.n.toArray⟩, x.s]
theorem fl2 (x : Fl) : x.enc.length = 2 := rfl
def RdF (w : World) (v : Value) (l : List Fl) : Prop := RdG Fl.enc 2 w v l
def FoundIs (l : List Fl) (n : List UInt8) (e : Ending) : Prop := match l.find? fun x => x.n == n with
  | none => e = .returned (.tuple #[.slice none 0 0, .bool false])
  | some x => e = .returned (.tuple #[x.s, .bool true])
theorem found_some {l : List Fl} {n : List UInt8} {k : Nat} (hk : k < l.length) (h : ∀ x ∈ l.take k, ¬ x.n = n) (e : l[k].n = n) : l.find? (fun x => x.n == n) = some l[k] := by
  have e1 : l = l.take k ++ l[k] :: l.drop (k + 1) := by rw [← List.drop_eq_getElem_cons hk, List.take_append_drop]
  have h0 : (l.take k).find? (fun x => x.n == n) = none := List.find?_eq_none.2 fun x hx => by simpa using h x hx
  have h1 : (l.take k ++ l[k] :: l.drop (k + 1)).find? (fun x => x.n == n) = some l[k] := by
    have h2 : (l[k].n == n) = true := by rw [e]; exact beq_self_eq_true n
    rw [List.find?_append, h0, List.find?_cons, h2]; rfl
  rw [← e1] at h1
  exact h1
end Go.Proofs.YtkpmadahfmpeiaaGreat
