/-
  disk.Remove.
-/
import Derived.Test.YtkfokgjpeaibpaaLi
import Derived.Test.YtkfokgjpeaibpaaDw7
import Derived.Test.YtkfokgjpeaibpaaPo3
import Derived.Test.YtkfokgjpeaibpaaPf2
import Derived.Test.YtkfokgjpeaibpaaDk
namespace Go.Proofs.Ytkfokgjpeaibpaa
open Go.RowKit Go.Maps
set_option maxRecDepth 100000
set_option maxHeartbeats 400000

theorem size_del_lt {H : Type} {D : DataW H} {kl : Lit} (hD : IsMap D) (h : has D kl = true) : Maps.size (D.del kl) + 1 ≤ Maps.size D := by
  obtain ⟨es, rfl⟩ := hD
  rw [has_eq, List.any_eq_true] at h
  obtain ⟨p, hp, hs⟩ := h
  show (es.filter fun p => !p.1.sameKey kl).length + 1 ≤ es.length
  have := List.length_filter_lt_length_iff_exists (p := fun p : Lit × DataW H => !p.1.sameKey kl) (l := es) |>.2 ⟨p, hp, by simp [hs]⟩
  omega
/-- delete(m, s), where it is there: the map is smaller by one. -/
theorem wp_fm_del1 {w : World} {m n : Nat} {dom : List UInt8 → Option Nat} {ops : Array Oper} {rest : List Oper} {o : Oper} {a : Act} {Q : Exit → Act → World → Prop} (hg : o.guard = none) (mm x : Operand) (hop : o.op = .call { callee := .builtin .delete, args := #[mm, x], argTypes := #[82, 9] })
    (h : FM w m (n + 1) dom) (hm : a.eval mm = .map (some m)) {s : List UInt8} (hs : s.length ≤ maxLen) (hin : dom s ≠ none) (hx : a.eval x = .string ⟨s.toArray⟩)
    (hK : ∀ w', FM w' m n (fun x => if x = s then none else dom x) → w.grownBy w' (some m) → wpList Try.prog ops Q rest (a.put o.dst (.tuple #[])) w') : wpList Try.prog ops Q (o :: rest) a w := by
  obtain ⟨D, h, h0, h1⟩ := h
  obtain ⟨b0, hb0⟩ := Option.ne_none_iff_exists'.1 hin
  have hsz := size_del_lt (FM.isMap h) (h1 s b0 hb0).2.1
  have hle := h.size_le
  refine wpList_delete_own w hg mm x _ _ hop 107 Try.keyedS Try.underlying82 ptrElem m (n + 1) D hm h _ _ hx (keyS hs) fun w' h' g' => hK w' ?_ g'.grown
  obtain ⟨es, clock, q1, q2, q3, q4⟩ := h'
  have hes : es.size ≤ n := by
    have : Maps.size (D.del (.string s)) = es.size := by rw [q4]; simp [Maps.size, Go.length_sorted]
    omega
  refine ⟨D.del (.string s), ⟨es, clock, q1, q2, hes, q4⟩, fun y hy hn => ?_, fun y c hc => ?_⟩
  · by_cases e : y = s
    · subst e; exact has_del_same
    · simp only [e, if_false] at hn
      rw [has_del_other (string_ne e)]; exact h0 y hy hn
  · by_cases e : y = s
    · simp [e] at hc
    · simp only [e, if_false] at hc
      obtain ⟨k1, k2, k3⟩ := h1 y c hc
      exact ⟨k1, by rw [has_del_other (string_ne e)]; exact k2, fun z => by rw [atKey_del_other (string_ne e)]; exact k3 z⟩
/-- the other files. -/
def butF (fs : List Fi) (n : List UInt8) : List Fi := fs.filter fun f => !(f.name == n)
def Dk.removed (S : Dk) (n : List UInt8) : Dk := { S with fs := butF S.fs n, loose := fun s k => S.loose s k && !(s == n) }
def Dk.remove (S : Dk) (n : List UInt8) : Dk × Nat :=
  if S.begin.dead then (S.begin, 6) else if rightB n = false then (S.begin, 1) else
  match S.find n with
  | none => (S.begin, 3)
  | some _ => (S.begin.removed n, 0)
theorem butF_find (fs : List Fi) (n s : List UInt8) : (butF fs n).find? (fun f => f.name == s) = if s = n then none else fs.find? fun f => f.name == s := by
  unfold butF
  rw [List.find?_filter]
  by_cases e : s = n
  · subst e
    rw [if_pos rfl, List.find?_eq_none]
    intro f _
    simp
  · rw [if_neg e]
    congr 1
    funext f
    by_cases e2 : f.name = s
    · simp [e2, e]
    · simp [e2]
theorem butF_len {fs : List Fi} (hn : (fs.map Fi.name).Nodup) {f : Fi} (hf : f ∈ fs) : (butF fs f.name).length + 1 = fs.length := by
  induction fs with
  | nil => cases hf
  | cons a l ih =>
    rw [List.map_cons, List.nodup_cons] at hn
    unfold butF
    rw [List.filter_cons]
    by_cases e : a.name = f.name
    · have hl : l.filter (fun g => !(g.name == f.name)) = l := List.filter_eq_self.2 fun g hg => by
        have : g.name ≠ f.name := fun e2 => hn.1 (List.mem_map.2 ⟨g, hg, by rw [e2, e]⟩)
        simpa using this
      rw [if_neg (by simp [e]), hl]; rfl
    · rw [if_pos (by simpa using e)]
      have hfl : f ∈ l := by
        rcases List.mem_cons.1 hf with h | h
        · exact absurd (by rw [h]) e
        · exact h
      have := ih hn.2 hfl
      unfold butF at this
      simp only [List.length_cons]
      omega
theorem mem_butF {fs : List Fi} {n : List UInt8} {f : Fi} (h : f ∈ butF fs n) : f ∈ fs ∧ f.name ≠ n := by
  unfold butF at h
  rw [List.mem_filter] at h
  exact ⟨h.1, by simpa using h.2⟩
section
variable {w w' : World} {B d : Nat} {o : Own1} {S : Dk} {c : Con}
/-- a file less. -/
theorem DI.less (h : DI w B o d S c) {n : List UInt8} (hg : w.grownBy w' (some c.mb)) (hm : FM w' c.mb (butF S.fs n).length (fun x => if x = n then none else domOf S.fs c.fb x)) : DI w' B o d { S with fs := butF S.fs n } c := by
  have hs : ∀ i, o i ≠ none → i ≠ c.mb → w'.heap[i]? = w.heap[i]? := fun i hi hd => hg.block i (h.inb i hi).2 (fun e => hd (by cases e; rfl))
  have hM := h.tM
  refine { self := h.self.same (hs _ (by rw [h.tD]; simp) (fun e => by have := h.tD; rw [e, hM] at this; cases this)), fm := ?_, lm := h.lm.same (hs _ (by rw [h.tL]; simp) (fun e => by have := h.tL; rw [e, hM] at this; cases this)), file := fun f hf => ?_, tag := fun f hf => h.tag f (mem_butF hf).1, names := ?_, tD := h.tD, tM := h.tM, tL := h.tL, inb := fun i hi => ⟨(h.inb i hi).1, Nat.lt_of_lt_of_le (h.inb i hi).2 hg.size⟩, lim := h.lim }
  · refine (show (fun x => if x = n then none else domOf S.fs c.fb x) = domOf (butF S.fs n) c.fb from ?_) ▸ hm
    funext x
    unfold domOf
    rw [butF_find]
    split <;> rfl
  · obtain ⟨hf1, _⟩ := mem_butF hf
    refine (h.file f hf1).same (hs _ (by rw [(h.tag f hf1).file]; simp) (fun e => by have := (h.tag f hf1).file; rw [e, hM] at this; cases this)) (fun k hk => hs k (by rw [(h.tag f hf1).now k hk]; simp) (fun e => by have := (h.tag f hf1).now k hk; rw [e, hM] at this; cases this))
      (fun k hk => hs k (by rw [(h.tag f hf1).lasts k hk]; simp) (fun e => by have := (h.tag f hf1).lasts k hk; rw [e, hM] at this; cases this))
  · show ((butF S.fs n).map Fi.name).Nodup
    exact List.Nodup.sublist (List.Sublist.map _ List.filter_sublist) h.names
set_option maxHeartbeats 1000000 in
theorem remove_any (h : DI w B o d S c) (n : List UInt8) (hn : n.length ≤ 1000000000) :
    Calls Try.prog 47 #[.pointer (some ⟨d, 0, none⟩), .string ⟨n.toArray⟩] w fun e w' => e = .returned (.int .i64 (S.remove n).2) ∧ DOut o w B d (S.remove n).1 w' := by
  have H := Lib.hid h
  have hbg := begin_any h
  have HB := Lib.hid hbg
  clear h hbg
  cases hd : S.begin.dead with
  | true =>
    have e : S.remove n = (S.begin, 6) := by unfold Dk.remove; rw [hd]; rfl
    rw [e]
    clear e
    go_enter Try.func47, Try.ntmps47
    go_wp2_with fail
    refine HB.out.mono ?_
    rintro e w1 ⟨rfl, h1, g1⟩
    have H1 := Lib.hid h1
    clear h1
    rw [hd]
    go_wp2
    go_ret
    exact ⟨rfl, dout_begin H.out H1.out g1 (gr_refl _ _)⟩
  | false =>
    cases hr : rightB n with
    | false =>
      have e : S.remove n = (S.begin, 1) := by unfold Dk.remove; rw [hd, hr]; rfl
      rw [e]
      clear e
      go_enter Try.func47, Try.ntmps47
      go_wp2_with fail
      refine HB.out.mono ?_
      rintro e w1 ⟨rfl, h1, g1⟩
      have H1 := Lib.hid h1
      clear h1
      rw [hd]
      go_wp2_with (go_at_call 63; refine (find_bad d n true _ hn (.inl hr)).mono ?_; rintro e w2 ⟨rfl, g2⟩)
      go_ret
      exact ⟨rfl, dout_begin H.out H1.out g1 g2⟩
    | true =>
      cases hf : S.find n with
      | none =>
        have e : S.remove n = (S.begin, 3) := by unfold Dk.remove; rw [hd, hr, hf]; rfl
        rw [e]
        clear e
        have hf1 : S.begin.find n = none := by rw [begin_find]; exact hf
        clear hf
        go_enter Try.func47, Try.ntmps47
        go_wp2_with fail
        refine HB.out.mono ?_
        rintro e w1 ⟨rfl, h1, g1⟩
        have H1 := Lib.hid h1
        have Hfo := Lib.hid (find_no h1 hn hr hf1)
        clear h1 hf1
        rw [hd]
        go_wp2_with (go_at_call 63; refine Hfo.out.mono ?_; rintro e w2 ⟨rfl, g2⟩)
        go_ret
        exact ⟨rfl, dout_begin H.out H1.out g1 g2⟩
      | some f =>
        have e : S.remove n = (S.begin.removed n, 0) := by unfold Dk.remove; rw [hd, hr, hf]; rfl
        rw [e]
        clear e
        have hf1 : S.begin.find n = some f := by rw [begin_find]; exact hf
        obtain ⟨hmem, rfl⟩ := find_some hf1
        have HM := Lib.hid hmem
        have HF1 := Lib.hid hf1
        clear hf hmem
        go_enter Try.func47, Try.ntmps47
        go_wp2_with fail
        refine HB.out.mono ?_
        rintro e w1 ⟨rfl, h1, g1⟩
        have H1 := Lib.hid h1
        have G1 := Lib.hid g1
        have Hfo := Lib.hid (find_ok h1 hn hr hf1)
        clear h1 hf1 g1
        rw [hd]
        go_wp2_with fail
        refine Hfo.out.mono ?_
        rintro e w2 ⟨rfl, g2⟩
        have h2 := H1.out.ext g2
        have hc : w2.cell? ⟨d, 0, none⟩ = some (.map (some c.mb)) := h2.self.cell 0
        have hlen := butF_len H1.out.names HM.out
        have hfm := h2.fm
        rw [← hlen] at hfm
        have hnm : f.name.length ≤ maxLen := by unfold maxLen; omega
        have hin : Hid (domOf S.begin.fs c.fb f.name ≠ none) := by
          show domOf S.begin.fs c.fb f.name ≠ none
          unfold domOf
          rw [find_mem H1.out.names HM.out]; simp
        have H2 := Lib.hid h2
        have HFM := Lib.hid hfm
        have G2 := Lib.hid g2
        clear h2 hlen hfm g2 hd hr
        go_wp2_with (refine wp_fm_del1 rfl (.tmp 25) (.tmp 26) rfl HFM.out rfl hnm hin.out rfl ?_; intro w3 hm3 g3)
        have h3 := H2.out.less g3 hm3
        have hst := settle_all h3 f.name
        have HST := Lib.hid hst
        have H3 := Lib.hid h3
        have HT := Lib.hid h3.tL
        have C3 : Hid (Ch o w o w3) := ((Ch.of_gr G1.out (fun k e => by cases e; rw [H.out.tD]; simp)).trans (Ch.ext G2.out)).trans (Ch.of_gr g3 (fun k e => by cases e; rw [H2.out.tM]; simp))
        clear h3 hst hm3 g3
        go_wp2_with fail
        refine HST.out.mono ?_
        rintro e w4 ⟨rfl, hl4, g4⟩
        have h4 := H3.out.loose g4 hl4
        have H4 := Lib.hid h4
        have C4 : Hid (Ch o w o w4) := C3.out.trans (Ch.of_gr g4 (fun k e => by cases e; rw [HT.out]; simp))
        clear h4 hl4 g4
        go_wp2
        go_ret
        exact ⟨rfl, o, c, H4.out, C4.out⟩
end
end Go.Proofs.Ytkfokgjpeaibpaa

/- pool, any of it: what its functions do, as plain data. -/
namespace Go.Proofs.Ytkfokgjpeaibpaa
set_option maxRecDepth 100000

structure Pm where
  fr : List Fr
  hand : Nat
  mf : Nat
  mp : Nat
def Fr.clean (f : Fr) : Fr := { f with dirty := false }
def Fr.rest (f : Fr) : Fr := { f with used := false }
def Fr.usedUp (f : Fr) : Fr := { f with used := true }
def Pm.noted (Q : Pm) : Pm := { Q with mf := max Q.mf (heldN Fr.full Q.fr), mp := max Q.mp (heldN (fun f => decide (0 < f.pins)) Q.fr) }
def isP (n : List UInt8) (k : Int) (f : Fr) : Bool := f.full && (f.n == n && f.k == k)
def Pm.at (Q : Pm) (n : List UInt8) (k : Int) : Option Nat := Q.fr.findIdx? (isP n k)
def Pm.free (Q : Pm) : Option Nat := Q.fr.findIdx? fun f => !f.full
def Pm.set (Q : Pm) (i : Nat) (x : Fr) : Pm := { Q with fr := Q.fr.set i x }
def Pm.fill (Q : Pm) (i : Nat) (f : Fr) : Pm := (Q.set i { f with full := true }).noted
/-- the hand goes round. -/
def clock : Nat → List Fr → Nat → List Fr × Nat
  | 0, fr, i => (fr, i)
  | t + 1, fr, i => match fr[i]? with
    | none => (fr, i)
    | some f => if 0 < f.pins then clock t fr ((i + 1) % fr.length) else if f.used then clock t (fr.set i f.rest) ((i + 1) % fr.length) else (fr, i)
theorem clock_len : ∀ (t : Nat) (fr : List Fr) (i : Nat), (clock t fr i).1.length = fr.length
  | 0, _, _ => rfl
  | t + 1, fr, i => by
    unfold clock
    split
    · rfl
    · split
      · exact clock_len t _ _
      · split
        · rw [clock_len t]; simp
        · rfl
theorem clock_lt : ∀ (t : Nat) (fr : List Fr) (i : Nat), i < fr.length → (clock t fr i).2 < fr.length
  | 0, _, _, h => h
  | t + 1, fr, i, h => by
    unfold clock
    split
    · exact h
    · split
      · exact clock_lt t _ _ (Nat.mod_lt _ (by omega))
      · split
        · have := clock_lt t (fr.set i (by assumption : Fr).rest) ((i + 1) % fr.length) (by simp; exact Nat.mod_lt _ (by omega))
          simpa using this
        · exact h
def dirtyF (n : List UInt8) (a b : Int) (f : Fr) : Bool := f.full && (f.dirty && (f.n == n && (decide (a ≤ f.k) && decide (f.k < b))))
def dirtyIx (fr : List Fr) (n : List UInt8) (a b : Int) : List Nat := (List.range fr.length).filter fun i => match fr[i]? with
  | none => false
  | some f => dirtyF n a b f
def kOf (fr : List Fr) (i : Nat) : Int := match fr[i]? with
  | some f => f.k
  | none => 0
/-- the dirty frames of a file, from a page on, below another one, rising. -/
def dirtyL (fr : List Fr) (n : List UInt8) (a b : Int) : List Nat := (dirtyIx fr n a b).mergeSort fun i j => decide (kOf fr i ≤ kOf fr j)
/-- frames, disk, error. -/
structure PutR where
  fr : List Fr
  S : Dk
  e : Nat
def putL (n : List UInt8) : List Nat → List Fr → Dk → PutR
  | [], fr, S => ⟨fr, S, 0⟩
  | i :: l, fr, S => match fr[i]? with
    | none => ⟨fr, S, 0⟩
    | some f => if (S.pwrite n f.k f.b).2 ≠ 0 then ⟨fr, (S.pwrite n f.k f.b).1, (S.pwrite n f.k f.b).2⟩ else putL n l (fr.set i f.clean) (S.pwrite n f.k f.b).1
def backP (fr : List Fr) (S : Dk) (i : Nat) : PutR := match fr[i]? with
  | none => ⟨fr, S, 0⟩
  | some f => if (S.pgs f.n).2 ≠ 0 then ⟨fr, S, (S.pgs f.n).2⟩ else putL f.n (dirtyL fr f.n (S.pgs f.n).1 f.k ++ [i]) fr S
/-- a place, an error, the pool, the disk. -/
structure TakeR where
  i : Nat
  e : Nat
  Q : Pm
  S : Dk
def takeC (Q : Pm) (S : Dk) (fr : List Fr) (i : Nat) : TakeR := match fr[i]? with
  | none => ⟨0, 10, Q, S⟩
  | some f =>
    if 0 < f.pins ∨ f.used = true then ⟨0, 10, { Q with fr := fr }, S⟩
    else if f.dirty = true then
      if (backP fr S i).e ≠ 0 then ⟨0, (backP fr S i).e, { Q with fr := (backP fr S i).fr, hand := i }, (backP fr S i).S⟩
      else ⟨i, 0, { Q with fr := (backP fr S i).fr.set i fr0, hand := (i + 1) % fr.length }, (backP fr S i).S⟩
    else ⟨i, 0, { Q with fr := fr.set i fr0, hand := (i + 1) % fr.length }, S⟩
def Pm.take (Q : Pm) (S : Dk) : TakeR := match Q.free with
  | some i => ⟨i, 0, Q, S⟩
  | none => takeC Q S (clock (2 * Q.fr.length) Q.fr Q.hand).1 (clock (2 * Q.fr.length) Q.fr Q.hand).2
/-- how many pages, or an error. -/
def Pm.pages (Q : Pm) (S : Dk) (n : List UInt8) : Int × Nat := if (S.pgs n).2 ≠ 0 then (0, (S.pgs n).2) else (pagesN Q.fr n (S.pgs n).1, 0)
def frR (n : List UInt8) (k : Int) (b : List UInt8) (v : Value) : Fr := ⟨true, n, k, b, v, 0, false, true⟩
def bringR (Q : Pm) (S : Dk) (n : List UInt8) (k : Int) (v : Value) : TakeR :=
  if (S.pread n k).2 ≠ 0 then ⟨0, (S.pread n k).2, Q, S⟩
  else if (Q.take S).e ≠ 0 then ⟨0, (Q.take S).e, (Q.take S).Q, (Q.take S).S⟩
  else ⟨(Q.take S).i, 0, (Q.take S).Q.fill (Q.take S).i (frR n k (S.pread n k).1 v), (Q.take S).S⟩
/-- v: where the page that comes in lies. -/
def Pm.bring (Q : Pm) (S : Dk) (n : List UInt8) (k : Int) (v : Value) : TakeR :=
  if (Q.pages S n).2 ≠ 0 then ⟨0, (Q.pages S n).2, Q, S⟩
  else if k < 0 then ⟨0, 1, Q, S⟩
  else if (Q.pages S n).1 ≤ k then ⟨0, 3, Q, S⟩
  else match Q.at n k with
  | some i => ⟨i, 0, { Q with fr := Q.fr.modify i Fr.usedUp }, S⟩
  | none => bringR Q S n k v
def Pm.bytes (Q : Pm) (i : Nat) : List UInt8 := match Q.fr[i]? with
  | some f => f.b
  | none => []
/-- bytes, error, pool, disk. -/
structure ReadR where
  b : List UInt8
  e : Nat
  Q : Pm
  S : Dk
def Pm.read (Q : Pm) (S : Dk) (n : List UInt8) (k : Int) (v : Value) : ReadR :=
  if (Q.bring S n k v).e ≠ 0 then ⟨[], (Q.bring S n k v).e, (Q.bring S n k v).Q, (Q.bring S n k v).S⟩
  else ⟨(Q.bring S n k v).Q.bytes (Q.bring S n k v).i, 0, (Q.bring S n k v).Q, (Q.bring S n k v).S⟩
def Pm.pinUp (Q : Pm) (i : Nat) : Pm := ({ Q with fr := Q.fr.modify i fun f => { f with pins := f.pins + 1 } } : Pm).noted
def Pm.pin (Q : Pm) (S : Dk) (n : List UInt8) (k : Int) (v : Value) : ReadR :=
  if (Q.bring S n k v).e ≠ 0 then ⟨[], (Q.bring S n k v).e, (Q.bring S n k v).Q, (Q.bring S n k v).S⟩
  else ⟨(Q.bring S n k v).Q.bytes (Q.bring S n k v).i, 0, (Q.bring S n k v).Q.pinUp (Q.bring S n k v).i, (Q.bring S n k v).S⟩
def Pm.pinsAt (Q : Pm) (i : Nat) : Nat := match Q.fr[i]? with
  | some f => f.pins
  | none => 0
def Pm.unpin (Q : Pm) (n : List UInt8) (k : Int) : Pm × Nat := match Q.at n k with
  | none => (Q, 3)
  | some i => if Q.pinsAt i = 0 then (Q, 3) else ({ Q with fr := Q.fr.modify i fun f => { f with pins := f.pins - 1 } }, 0)
def Pm.wrote (Q : Pm) (i : Nat) (b : List UInt8) (v : Value) : Pm := { Q with fr := Q.fr.modify i fun f => { f with b := b, bv := v, dirty := true, used := true } }
structure WriteR where
  e : Nat
  Q : Pm
  S : Dk
def Pm.write (Q : Pm) (S : Dk) (n : List UInt8) (k : Int) (b : List UInt8) (v : Value) : WriteR :=
  if 240 < b.length then ⟨9, Q, S⟩
  else if (Q.pages S n).2 ≠ 0 then ⟨(Q.pages S n).2, Q, S⟩
  else if k < 0 ∨ (Q.pages S n).1 < k then ⟨1, Q, S⟩
  else match Q.at n k with
  | some i => ⟨0, Q.wrote i b v, S⟩
  | none => if (Q.take S).e ≠ 0 then ⟨(Q.take S).e, (Q.take S).Q, (Q.take S).S⟩
    else ⟨0, ((Q.take S).Q.fill (Q.take S).i ⟨true, n, k, [], .slice none 0 0, 0, false, false⟩).wrote (Q.take S).i b v, (Q.take S).S⟩
def Pm.flush (Q : Pm) (S : Dk) (n : List UInt8) : WriteR :=
  if (S.pgs n).2 ≠ 0 then ⟨(S.pgs n).2, Q, S⟩
  else if (putL n (dirtyL Q.fr n 0 16777216) Q.fr S).e ≠ 0 then ⟨(putL n (dirtyL Q.fr n 0 16777216) Q.fr S).e, { Q with fr := (putL n (dirtyL Q.fr n 0 16777216) Q.fr S).fr }, (putL n (dirtyL Q.fr n 0 16777216) Q.fr S).S⟩
  else ⟨((putL n (dirtyL Q.fr n 0 16777216) Q.fr S).S.sync n).2, { Q with fr := (putL n (dirtyL Q.fr n 0 16777216) Q.fr S).fr }, ((putL n (dirtyL Q.fr n 0 16777216) Q.fr S).S.sync n).1⟩
def ofN (n : List UInt8) (f : Fr) : Bool := f.full && f.n == n
def Pm.drop (Q : Pm) (S : Dk) (n : List UInt8) : WriteR :=
  if (Q.fr.any fun f => ofN n f && decide (0 < f.pins)) = true then ⟨10, Q, S⟩
  else ⟨(S.remove n).2, { Q with fr := Q.fr.map fun f => if ofN n f then fr0 else f }, (S.remove n).1⟩
end Go.Proofs.Ytkfokgjpeaibpaa

/- A disk with one file of pages: what it holds, and what is done with it. -/
namespace Go.Proofs.Ytkfokgjpeaibpaa
open Go.RowKit
set_option maxRecDepth 100000
set_option maxHeartbeats 400000

structure PgS (q : Nat) (S : Dk) (n : Nat) (g : Nat → List UInt8) (m : Nat) : Prop where
  idle : Idle S
  quota : S.quota = q
  nl : S.nl ≤ 256 * m
  file : ∃ c la, S.fs = [⟨an, c, la⟩] ∧ Holds c (crcS an) n g
section
variable {q n m : Nat} {S : Dk} {g : Nat → List UInt8}
theorem PgS.find (h : PgS q S n g m) : ∃ c la, S.find an = some ⟨an, c, la⟩ ∧ Holds c (crcS an) n g := by
  obtain ⟨c, la, e, hh⟩ := h.file
  exact ⟨c, la, by unfold Dk.find; rw [e]; simp, hh⟩
theorem PgS.size (h : PgS q S n g m) : S.size an = (256 * n, 0) := by
  obtain ⟨c, la, hf, hh⟩ := h.find
  rw [size_idle h.idle an_right hf]
  exact congrArg (·, 0) hh.len
theorem PgS.pages (h : PgS q S n g m) : S.ppages an = (n, 0) := by
  unfold Dk.ppages; rw [h.size]; simp
theorem PgS.used (h : PgS q S n g m) : S.used = 4 * n := by
  obtain ⟨c, la, e, hh⟩ := h.file
  unfold Dk.used; rw [e]; simp [hh.len, sectors]; omega
theorem PgS.read_ (h : PgS q S n g m) (k : Nat) : (S.read an ((k : Int) * 256) 256).1 = pgA ((S.find an).elim [] Fi.now) k := by
  obtain ⟨c, la, hf, hh⟩ := h.find
  have := read_idle (p := k * 256) (k := 256) h.idle an_right hf
  rw [show ((k * 256 : Nat) : Int) = (k : Int) * 256 from by push_cast; rfl] at this
  rw [show ((256 : Nat) : Int) = 256 from rfl] at this
  rw [this, hf]
  show _ = pgA c k
  unfold pgA
  rw [Nat.mul_comm]
theorem pread_of {S : Dk} {nm : List UInt8} {n : Nat} (hs : S.size nm = (256 * n, 0)) {k : Nat} (hk : k < n) : S.pread nm k = match pagO (S.read nm ((k : Int) * 256) 256).1 (crcS nm) k with | none => ([], 7) | some b => (b, 0) := by
  unfold Dk.pread
  rw [hs, if_neg (by omega), if_neg (by simp), if_neg (by simp; omega), Int.toNat_natCast]
  rfl
theorem PgS.pread (h : PgS q S n g m) {k : Nat} (hk : k < n) : S.pread an k = (g k, 0) := by
  rw [pread_of h.size hk, h.read_ k]
  obtain ⟨c, la, hf, hh⟩ := h.find
  rw [hf]
  show (match pagO (pgA c k) (crcS an) k with | none => ([], 7) | some b => (b, 0)) = _
  rw [hh.at_ k hk]
def updG (g : Nat → List UInt8) (k : Nat) (b : List UInt8) : Nat → List UInt8 := fun i => if i = k then b else g i
theorem PgS.write (h : PgS q S n g m) {k : Nat} (hk : k ≤ n) (hn : n ≤ 1000) (hq : 4 * (n + 1) ≤ q) {b : List UInt8} (hb : b.length ≤ 240) :
    (S.pwrite an k b).2 = 0 ∧ PgS q (S.pwrite an k b).1 (max n (k + 1)) (updG g k b) (m + 1) := by
  obtain ⟨c, la, e, hh⟩ := h.file
  have hf : S.find an = some ⟨an, c, la⟩ := by unfold Dk.find; rw [e]; simp
  have hl := pagB_len (tag := crcS an) (k := k) hb
  have hw : S.write an ((k : Int) * 256) (pagB (crcS an) k b) = (S.wrote an (k * 256) (pagB (crcS an) k b), 0) := by
    have := write_idle (S := S) (f := ⟨an, c, la⟩) (n := an) (p := k * 256) (b := pagB (crcS an) k b) h.idle an_right hf (by show k * 256 ≤ c.length; rw [hh.len]; omega) (by rw [hl]; omega) (by
      intro hx
      have hu := h.used
      have hx2 := hx.2
      unfold moreS at hx2
      rw [h.quota, hu, hl] at hx2
      have e1 : (⟨an, c, la⟩ : Fi).now.length = 256 * n := hh.len
      rw [e1] at hx2
      unfold sectors at hx2
      omega)
    rw [show ((k * 256 : Nat) : Int) = (k : Int) * 256 from by push_cast; rfl] at this
    exact this
  have hp : S.pwrite an k b = (S.wrote an (k * 256) (pagB (crcS an) k b), 0) := by
    unfold Dk.pwrite
    rw [h.size, if_neg (by omega), if_neg (by omega), if_neg (by simp), if_neg (by simp; omega), Int.toNat_natCast, hw]
  rw [hp]
  refine ⟨rfl, ⟨h.idle.1, h.idle.2⟩, h.quota, ?_, overZ c (k * 256) (pagB (crcS an) k b), la, ?_, ?_⟩
  · show S.nl + (pagB (crcS an) k b).length ≤ _
    rw [hl]; have := h.nl; omega
  · unfold Dk.wrote setF
    rw [e]
    simp
  · rw [Nat.mul_comm k]
    exact hh.write hk (by omega) (crcE_lt _ _) hb
theorem PgS.sync (h : PgS q S n g m) : (S.sync an).2 = 0 ∧ PgS q (S.sync an).1 n g m := by
  obtain ⟨c, la, e, hh⟩ := h.file
  have hf : S.find an = some ⟨an, c, la⟩ := by unfold Dk.find; rw [e]; simp
  rw [sync_idle h.idle an_right hf]
  refine ⟨rfl, ⟨h.idle.1, h.idle.2⟩, h.quota, h.nl, c, c, ?_, hh⟩
  unfold Dk.synced setF
  rw [e]
  simp
theorem newD_idle (q : Nat) : Idle (newD q) := ⟨rfl, rfl⟩
theorem PgS.create (q : Nat) (g : Nat → List UInt8) : ((newD q).create an).2 = 0 ∧ PgS q ((newD q).create an).1 0 g 0 := by
  rw [create_idle (newD_idle q) an_right rfl]
  exact ⟨rfl, ⟨rfl, rfl⟩, rfl, by simp [newD], [], [], by simp [newD], Holds.nil _ _⟩
end
/-- .. in memory. -/
def PgW (w0 w : World) (d pf q n : Nat) (g : Nat → List UInt8) (m : Nat) : Prop := ∃ o c S, DI w w0.heap.size o d S c ∧ PgS q S n g m ∧ PfR w w0.heap.size o d pf an ∧ w0.grownBy w none
section
variable {w0 w w' : World} {d pf q n m : Nat} {g : Nat → List UInt8}
theorem PgW.gr (h : PgW w0 w d pf q n g m) : w0.grownBy w none := by obtain ⟨_, _, _, _, _, _, h⟩ := h; exact h
theorem PgW.ext (h : PgW w0 w d pf q n g m) (hg : w.grownBy w' none) : PgW w0 w' d pf q n g m := by
  obtain ⟨o, c, S, h1, h2, h3, h4⟩ := h
  exact ⟨o, c, S, h1.ext hg, h2, h3.ext hg, gr_none h4 hg⟩
theorem PgW.pages (h : PgW w0 w d pf q n g m) : Calls Try.prog 53 #[.pointer (some ⟨pf, 0, none⟩)] w fun e w' => e = .returned (.tuple #[.int .i64 n, .int .i64 0]) ∧ w.grownBy w' none := by
  obtain ⟨o, c, S, h1, h2, h3, h4⟩ := h
  have := pages_any h1 h3 (by simp)
  rw [h2.pages] at this
  exact this
theorem PgW.read (h : PgW w0 w d pf q n g m) {k : Nat} (hk : k < n) (hn : n ≤ 1000) : Calls Try.prog 54 #[.pointer (some ⟨pf, 0, none⟩), .int .i64 k] w fun e w' => (∃ v, e = .returned (.tuple #[v, .int .i64 0]) ∧ OwnB w' w.heap.size v (g k)) ∧ w.grownBy w' none := by
  obtain ⟨o, c, S, h1, h2, h3, h4⟩ := h
  have := pread_any h1 h3 (by simp) k (by omega)
  rw [h2.pread hk] at this
  exact this
theorem PgW.write (h : PgW w0 w d pf q n g m) {k : Nat} (hk : k ≤ n) (hn : n ≤ 1000) (hm : m ≤ 1000000) (hq : 4 * (n + 1) ≤ q) {bv : Value} {b : List UInt8} (hb : RdB w bv b) (hb2 : b.length ≤ 240) :
    Calls Try.prog 58 #[.pointer (some ⟨pf, 0, none⟩), .int .i64 k, bv] w fun e w' => e = .returned (.int .i64 0) ∧ PgW w0 w' d pf q (max n (k + 1)) (updG g k b) (m + 1) := by
  obtain ⟨o, c, S, h1, h2, h3, h4⟩ := h
  have hfs : S.fs.length = 1 := by obtain ⟨c', la, e, _⟩ := h2.file; rw [e]; rfl
  refine (pwrite_any h1 h3 (by simp) k (by omega) bv b hb (by omega) (by omega) (by have := h2.nl; omega)).mono ?_
  obtain ⟨e0, hS⟩ := h2.write hk hn hq hb2
  rintro e w' ⟨rfl, o', c', h1', ch⟩
  exact ⟨by rw [e0]; rfl, o', c', _, h1', hS, h3.ch ch, ch.gr h4 fun i hi => (h1.inb i hi).1⟩
theorem PgW.sync (h : PgW w0 w d pf q n g m) : Calls Try.prog 44 #[.pointer (some ⟨pf, 0, none⟩)] w fun e w' => e = .returned (.int .i64 0) ∧ PgW w0 w' d pf q n g m := by
  obtain ⟨o, c, S, h1, h2, h3, h4⟩ := h
  refine (psync_any h1 h3 (by simp)).mono ?_
  obtain ⟨e0, hS⟩ := h2.sync
  rintro e w' ⟨rfl, o', c', h1', ch⟩
  exact ⟨by rw [e0]; rfl, o', c', _, h1', hS, h3.ch ch, ch.gr h4 fun i hi => (h1.inb i hi).1⟩
theorem pcreate_new (w0 w : World) (d q : Nat) (o : Own1) (c : Con) (h : DI w w0.heap.size o d (newD q) c) (hg : w0.grownBy w none) (g : Nat → List UInt8) :
    Calls Try.prog 39 #[.pointer (some ⟨d, 0, none⟩), .string ⟨an.toArray⟩] w fun e w' => ∃ pf, e = .returned (.tuple #[.pointer (some ⟨pf, 0, none⟩), .int .i64 0]) ∧ PgW w0 w' d pf q 0 g 0 := by
  refine (pcreate_any h (n := an) (by simp) (by simp [newD])).mono ?_
  obtain ⟨e0, hS⟩ := PgS.create q g
  rintro e w' ⟨o', c', h1, ch, ⟨_, pf, rfl, _, hp⟩ | ⟨hne, _⟩⟩
  · exact ⟨pf, rfl, o', c', _, h1, hS, hp, ch.gr hg fun i hi => (h.inb i hi).1⟩
  · exact absurd e0 hne
end
end Go.Proofs.Ytkfokgjpeaibpaa
