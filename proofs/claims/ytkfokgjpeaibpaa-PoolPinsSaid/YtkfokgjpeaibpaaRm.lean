/-
  disk.Remove.
-/
import Derived.Test.YtkfokgjpeaibpaaLi
import Derived.Test.YtkfokgjpeaibpaaDw5
namespace Go.Proofs.Ytkfokgjpeaibpaa
open Go.RowKit Go.Maps
set_option maxRecDepth 100000
set_option maxHeartbeats 400000

theorem size_del_lt {H : Type} {D : DataW H} {kl : Lit} (hD : IsMap D) (h : has D kl = true) : Maps.size (D.del kl) + 1 ≤ Maps.size D := by
  obtain ⟨es, rfl⟩ := hD
  rw [has_eq, List.any_eq_true] at h
  obtain ⟨p, hp, hs⟩ := h
  show (es.filter fun p => !p.1.sameKey kl).length + 1 ≤ es.length
  have := List.length_filter_lt_length_iff_exists (p := fun p : Lit × DataW H => !p.1.sameKey kl) (l := es) |>.2 ⟨p, hp, by simp [hs]⟩
  omega
/-- delete(m, s), where it is there: the map is smaller by one. -/
theorem wp_fm_del1 {w : World} {m n : Nat} {dom : List UInt8 → Option Nat} {ops : Array Oper} {rest : List Oper} {o : Oper} {a : Act} {Q : Exit → Act → World → Prop} (hg : o.guard = none) (mm x : Operand) (hop : o.op = .call { callee := .builtin .delete, args := #[mm, x], argTypes := #[82, 9] })
    (h : FM w m (n + 1) dom) (hm : a.eval mm = .map (some m)) {s : List UInt8} (hs : s.length ≤ maxLen) (hin : dom s ≠ none) (hx : a.eval x = .string ⟨s.toArray⟩)
    (hK : ∀ w', FM w' m n (fun x => if x = s then none else dom x) → w.grownBy w' (some m) → wpList Try.prog ops Q rest (a.put o.dst (.tuple #[])) w') : wpList Try.prog ops Q (o :: rest) a w := by
  obtain ⟨D, h, h0, h1⟩ := h
  obtain ⟨b0, hb0⟩ := Option.ne_none_iff_exists'.1 hin
  have hsz := size_del_lt (FM.isMap h) (h1 s b0 hb0).2.1
  have hle := h.size_le
  refine wpList_delete_own w hg mm x _ _ hop 107 Try.keyedS Try.underlying82 ptrElem m (n + 1) D hm h _ _ hx (keyS hs) fun w' h' g' => hK w' ?_ g'.grown
  obtain ⟨es, clock, q1, q2, q3, q4⟩ := h'
  have hes : es.size ≤ n := by
    have : Maps.size (D.del (.string s)) = es.size := by rw [q4]; simp [Maps.size, Go.length_sorted]
    omega
  refine ⟨D.del (.string s), ⟨es, clock, q1, q2, hes, q4⟩, fun y hy hn => ?_, fun y c hc => ?_⟩
  · by_cases e : y = s
    · subst e; exact has_del_same
    · simp only [e, if_false] at hn
      rw [has_del_other (string_ne e)]; exact h0 y hy hn
  · by_cases e : y = s
    · simp [e] at hc
    · simp only [e, if_false] at hc
      obtain ⟨k1, k2, k3⟩ := h1 y c hc
      exact ⟨k1, by rw [has_del_other (string_ne e)]; exact k2, fun z => by rw [atKey_del_other (string_ne e)]; exact k3 z⟩
/-- the other files. -/
def butF (fs : List Fi) (n : List UInt8) : List Fi := fs.filter fun f => !(f.name == n)
def Dk.removed (S : Dk) (n : List UInt8) : Dk := { S with fs := butF S.fs n, loose := fun s k => S.loose s k && !(s == n) }
def Dk.remove (S : Dk) (n : List UInt8) : Dk × Nat :=
  if S.begin.dead then (S.begin, 6) else if rightB n = false then (S.begin, 1) else
  match S.find n with
  | none => (S.begin, 3)
  | some _ => (S.begin.removed n, 0)
theorem butF_find (fs : List Fi) (n s : List UInt8) : (butF fs n).find? (fun f => f.name == s) = if s = n then none else fs.find? fun f => f.name == s := by
  unfold butF
  rw [List.find?_filter]
  by_cases e : s = n
  · subst e
    rw [if_pos rfl, List.find?_eq_none]
    intro f _
    simp
  · rw [if_neg e]
    congr 1
    funext f
    by_cases e2 : f.name = s
    · simp [e2, e]
    · simp [e2]
theorem butF_len {fs : List Fi} (hn : (fs.map Fi.name).Nodup) {f : Fi} (hf : f ∈ fs) : (butF fs f.name).length + 1 = fs.length := by
  induction fs with
  | nil => cases hf
  | cons a l ih =>
    rw [List.map_cons, List.nodup_cons] at hn
    unfold butF
    rw [List.filter_cons]
    by_cases e : a.name = f.name
    · have hl : l.filter (fun g => !(g.name == f.name)) = l := List.filter_eq_self.2 fun g hg => by
        have : g.name ≠ f.name := fun e2 => hn.1 (List.mem_map.2 ⟨g, hg, by rw [e2, e]⟩)
        simpa using this
      rw [if_neg (by simp [e]), hl]; rfl
    · rw [if_pos (by simpa using e)]
      have hfl : f ∈ l := by
        rcases List.mem_cons.1 hf with h | h
        · exact absurd (by rw [h]) e
        · exact h
      have := ih hn.2 hfl
      unfold butF at this
      simp only [List.length_cons]
      omega
theorem mem_butF {fs : List Fi} {n : List UInt8} {f : Fi} (h : f ∈ butF fs n) : f ∈ fs ∧ f.name ≠ n := by
  unfold butF at h
  rw [List.mem_filter] at h
  exact ⟨h.1, by simpa using h.2⟩
section
variable {w w' : World} {B d : Nat} {o : Own1} {S : Dk} {c : Con}
/-- a file less. -/
theorem DI.less (h : DI w B o d S c) {n : List UInt8} (hg : w.grownBy w' (some c.mb)) (hm : FM w' c.mb (butF S.fs n).length (fun x => if x = n then none else domOf S.fs c.fb x)) : DI w' B o d { S with fs := butF S.fs n } c := by
  have hs : ∀ i, o i ≠ none → i ≠ c.mb → w'.heap[i]? = w.heap[i]? := fun i hi hd => hg.block i (h.inb i hi).2 (fun e => hd (by cases e; rfl))
  have hM := h.tM
  refine { self := h.self.same (hs _ (by rw [h.tD]; simp) (fun e => by have := h.tD; rw [e, hM] at this; cases this)), fm := ?_, lm := h.lm.same (hs _ (by rw [h.tL]; simp) (fun e => by have := h.tL; rw [e, hM] at this; cases this)), file := fun f hf => ?_, tag := fun f hf => h.tag f (mem_butF hf).1, names := ?_, tD := h.tD, tM := h.tM, tL := h.tL, inb := fun i hi => ⟨(h.inb i hi).1, Nat.lt_of_lt_of_le (h.inb i hi).2 hg.size⟩, lim := h.lim }
  · refine (show (fun x => if x = n then none else domOf S.fs c.fb x) = domOf (butF S.fs n) c.fb from ?_) ▸ hm
    funext x
    unfold domOf
    rw [butF_find]
    split <;> rfl
  · obtain ⟨hf1, _⟩ := mem_butF hf
    refine (h.file f hf1).same (hs _ (by rw [(h.tag f hf1).file]; simp) (fun e => by have := (h.tag f hf1).file; rw [e, hM] at this; cases this)) (fun k hk => hs k (by rw [(h.tag f hf1).now k hk]; simp) (fun e => by have := (h.tag f hf1).now k hk; rw [e, hM] at this; cases this))
      (fun k hk => hs k (by rw [(h.tag f hf1).lasts k hk]; simp) (fun e => by have := (h.tag f hf1).lasts k hk; rw [e, hM] at this; cases this))
  · show ((butF S.fs n).map Fi.name).Nodup
    exact List.Nodup.sublist (List.Sublist.map _ List.filter_sublist) h.names
set_option maxHeartbeats 1000000 in
theorem remove_any (h : DI w B o d S c) (n : List UInt8) (hn : n.length ≤ 1000000000) :
    Calls Try.prog 47 #[.pointer (some ⟨d, 0, none⟩), .string ⟨n.toArray⟩] w fun e w' => e = .returned (.int .i64 (S.remove n).2) ∧ DOut o w B d (S.remove n).1 w' := by
  have H := Lib.hid h
  have hbg := begin_any h
  have HB := Lib.hid hbg
  clear h hbg
  cases hd : S.begin.dead with
  | true =>
    have e : S.remove n = (S.begin, 6) := by unfold Dk.remove; rw [hd]; rfl
    rw [e]
    clear e
    go_enter Try.func47, Try.ntmps47
    go_wp2_with fail
    refine HB.out.mono ?_
    rintro e w1 ⟨rfl, h1, g1⟩
    have H1 := Lib.hid h1
    clear h1
    rw [hd]
    go_wp2
    go_ret
    exact ⟨rfl, dout_begin H.out H1.out g1 (gr_refl _ _)⟩
  | false =>
    cases hr : rightB n with
    | false =>
      have e : S.remove n = (S.begin, 1) := by unfold Dk.remove; rw [hd, hr]; rfl
      rw [e]
      clear e
      go_enter Try.func47, Try.ntmps47
      go_wp2_with fail
      refine HB.out.mono ?_
      rintro e w1 ⟨rfl, h1, g1⟩
      have H1 := Lib.hid h1
      clear h1
      rw [hd]
      go_wp2_with (go_at_call 63; refine (find_bad d n true _ hn (.inl hr)).mono ?_; rintro e w2 ⟨rfl, g2⟩)
      go_ret
      exact ⟨rfl, dout_begin H.out H1.out g1 g2⟩
    | true =>
      cases hf : S.find n with
      | none =>
        have e : S.remove n = (S.begin, 3) := by unfold Dk.remove; rw [hd, hr, hf]; rfl
        rw [e]
        clear e
        have hf1 : S.begin.find n = none := by rw [begin_find]; exact hf
        clear hf
        go_enter Try.func47, Try.ntmps47
        go_wp2_with fail
        refine HB.out.mono ?_
        rintro e w1 ⟨rfl, h1, g1⟩
        have H1 := Lib.hid h1
        have Hfo := Lib.hid (find_no h1 hn hr hf1)
        clear h1 hf1
        rw [hd]
        go_wp2_with (go_at_call 63; refine Hfo.out.mono ?_; rintro e w2 ⟨rfl, g2⟩)
        go_ret
        exact ⟨rfl, dout_begin H.out H1.out g1 g2⟩
      | some f =>
        have e : S.remove n = (S.begin.removed n, 0) := by unfold Dk.remove; rw [hd, hr, hf]; rfl
        rw [e]
        clear e
        have hf1 : S.begin.find n = some f := by rw [begin_find]; exact hf
        obtain ⟨hmem, rfl⟩ := find_some hf1
        have HM := Lib.hid hmem
        have HF1 := Lib.hid hf1
        clear hf hmem
        go_enter Try.func47, Try.ntmps47
        go_wp2_with fail
        refine HB.out.mono ?_
        rintro e w1 ⟨rfl, h1, g1⟩
        have H1 := Lib.hid h1
        have G1 := Lib.hid g1
        have Hfo := Lib.hid (find_ok h1 hn hr hf1)
        clear h1 hf1 g1
        rw [hd]
        go_wp2_with fail
        refine Hfo.out.mono ?_
        rintro e w2 ⟨rfl, g2⟩
        have h2 := H1.out.ext g2
        have hc : w2.cell? ⟨d, 0, none⟩ = some (.map (some c.mb)) := h2.self.cell 0
        have hlen := butF_len H1.out.names HM.out
        have hfm := h2.fm
        rw [← hlen] at hfm
        have hnm : f.name.length ≤ maxLen := by unfold maxLen; omega
        have hin : Hid (domOf S.begin.fs c.fb f.name ≠ none) := by
          show domOf S.begin.fs c.fb f.name ≠ none
          unfold domOf
          rw [find_mem H1.out.names HM.out]; simp
        have H2 := Lib.hid h2
        have HFM := Lib.hid hfm
        have G2 := Lib.hid g2
        clear h2 hlen hfm g2 hd hr
        go_wp2_with (refine wp_fm_del1 rfl (.tmp 25) (.tmp 26) rfl HFM.out rfl hnm hin.out rfl ?_; intro w3 hm3 g3)
        have h3 := H2.out.less g3 hm3
        have hst := settle_all h3 f.name
        have HST := Lib.hid hst
        have H3 := Lib.hid h3
        have HT := Lib.hid h3.tL
        have C3 : Hid (Ch o w o w3) := ((Ch.of_gr G1.out (fun k e => by cases e; rw [H.out.tD]; simp)).trans (Ch.ext G2.out)).trans (Ch.of_gr g3 (fun k e => by cases e; rw [H2.out.tM]; simp))
        clear h3 hst hm3 g3
        go_wp2_with fail
        refine HST.out.mono ?_
        rintro e w4 ⟨rfl, hl4, g4⟩
        have h4 := H3.out.loose g4 hl4
        have H4 := Lib.hid h4
        have C4 : Hid (Ch o w o w4) := C3.out.trans (Ch.of_gr g4 (fun k e => by cases e; rw [HT.out]; simp))
        clear h4 hl4 g4
        go_wp2
        go_ret
        exact ⟨rfl, o, c, H4.out, C4.out⟩
end
end Go.Proofs.Ytkfokgjpeaibpaa
