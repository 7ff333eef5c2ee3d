/-
  disk.Files.
-/
import Derived.Test.YthkajgangnmbdaaDr0
namespace Go.Proofs.Ythkajgangnmbdaa
open Go.RowKit
set_option maxRecDepth 100000
set_option maxHeartbeats 400000

theorem Try.infoFl : (Try.prog.info? 69).map (fun i => (i.zero, i.size, i.bytes)) = some (some (.agg #[.string ⟨#[]⟩, .slice none 0 0]), 2, 40) := by kernel_rfl
/-- a slice's block, if it has one, is there. -/
def Lies (w : World) (v : Value) : Prop := ∀ q, v.ownBlock = some q → q < w.heap.size
theorem Lies.mono {w w' : World} {v : Value} (h : Lies w v) (hz : w.heap.size ≤ w'.heap.size) : Lies w' v := fun q e => Nat.lt_of_lt_of_le (h q e) hz
theorem Own.lies {w : World} {B s n : Nat} {v : Value} {xs : List Value} (h : Own w B s v n xs) (h0 : 0 < n) (hs : 0 < s) : Lies w v := by
  obtain ⟨_, A, c, g, off, rfl, hn, hc, _, hA, _, hx, hf⟩ := h
  intro k hk
  obtain rfl := hA (by omega)
  cases hk
  have hcs : 0 < c * s := Nat.mul_pos (by omega) hs
  obtain ⟨u, hu⟩ := Option.isSome_iff_exists.1 (hf 0 hcs).1
  exact World.block_lt_of_cell? w _ hu
/-- a file that was told, beside the slice of all. -/
def El (w : World) (v : Value) (x : Fl) : Prop := RdB w x.s x.b ∧ (0 < x.b.length → ∀ q, x.s.ownBlock = some q → q < w.heap.size ∧ v.ownBlock ≠ some q)
theorem El.step {w w' : World} {v v' : Value} {x : Fl} (h : El w v x) (hg : w.grownBy w' v.ownBlock) (hn : v'.ownBlock = v.ownBlock ∨ ∃ k, v'.ownBlock = some k ∧ w.heap.size ≤ k) : El w' v' x := by
  obtain ⟨h1, h2⟩ := h
  refine ⟨?_, fun h0 q hq => ?_⟩
  · rcases Nat.eq_zero_or_pos x.b.length with h0 | h0
    · obtain ⟨hl, A, c, g, off, e, hn, hc, hA0, hA, hx⟩ := h1
      exact ⟨hl, A, c, g, off, e, hn, hc, hA0, hA, fun j hj => by omega⟩
    · exact Rd.gr h1 hg fun k e e2 => (h2 h0 k e2).2 e
  · obtain ⟨k1, k2⟩ := h2 h0 q hq
    refine ⟨Nat.lt_of_lt_of_le k1 hg.size, ?_⟩
    rcases hn with e | ⟨k, e, hk⟩ <;> rw [e]
    · exact k2
    · intro e2; cases e2; omega
def OwnF (w : World) (B : Nat) (v : Value) (l : List Fl) : Prop := OwnG Fl.enc 2 w B v l ∧ Lies w v ∧ ∀ x ∈ l, El w v x
theorem OwnF.nil (w : World) (B : Nat) : OwnF w B (.slice none 0 0) [] := ⟨OwnG.nil _ _ _ _, fun q e => (by cases e), fun x hx => (by cases hx)⟩
theorem OwnF.ext {w w' : World} {B : Nat} {v : Value} {l : List Fl} (h : OwnF w B v l) (hg : w.grownBy w' none) : OwnF w' B v l :=
  ⟨OwnG.ext h.1 hg, h.2.1.mono hg.size, fun x hx => ⟨Rd.ext (h.2.2 x hx).1 hg, fun h0 q e => ⟨Nat.lt_of_lt_of_le ((h.2.2 x hx).2 h0 q e).1 hg.size, ((h.2.2 x hx).2 h0 q e).2⟩⟩⟩
theorem OwnF.mono {w : World} {B B' : Nat} {v : Value} {l : List Fl} (h : OwnF w B v l) (hB : B' ≤ B) : OwnF w B' v l := ⟨OwnG.mono h.1 hB, h.2⟩
theorem OwnF.form {w : World} {B : Nat} {v : Value} {l : List Fl} (h : OwnF w B v l) : ∃ A c, v = .slice A l.length c := RdG.form (OwnG.rd h.1)
theorem OwnF.app {w w' : World} {B : Nat} {v v' : Value} {l : List Fl} {x : Fl} (h : OwnF w B v l) (h0 : OwnG Fl.enc 2 w' B v' (l ++ [x])) (hg : w.grownBy w' v.ownBlock) (hn : v'.ownBlock = v.ownBlock ∨ ∃ k, v'.ownBlock = some k ∧ w.heap.size ≤ k) (hx : El w v x) : OwnF w' B v' (l ++ [x]) := by
  refine ⟨h0, Own.lies h0 (by simp) (by omega), fun y hy => ?_⟩
  rcases List.mem_append.1 hy with hy | hy
  · exact (h.2.2 y hy).step hg hn
  · rw [List.mem_singleton.1 hy]; exact hx.step hg hn
/-- append(v, f). -/
theorem wp_app1F {ops : Array Oper} {rest : List Oper} {o : Oper} {a : Act} {Q : Exit → Act → World → Prop} {w : World} (r : Fl) (C : Array Value) (hC : C.toList = r.enc) (h1c : r.s.oneCell' = true) (hgd : o.guard = none) (s0 x0 : Operand)
    (ho : o.op = .call { callee := .builtin .append, args := #[s0, x0], argTypes := #[34, 34] }) {B : Nat} {v : Value} {l : List Fl} (hs : a.eval s0 = v) (hown : OwnF w B v l) (hr : El w v r)
    (g : Nat) (hx : a.eval x0 = .slice (some ⟨g, 0, none⟩) 1 1) (hg : g = w.heap.size) (hn : l.length ≤ 1000000000) (hB : B ≤ w.heap.size)
    (h : ∀ v' w', OwnF w' B v' (l ++ [r]) → w.grownBy w' v.ownBlock → (v'.ownBlock = v.ownBlock ∨ ∃ k, v'.ownBlock = some k ∧ w.heap.size ≤ k) → wpList Try.prog ops Q rest (a.put o.dst v') w') :
    wpList Try.prog ops Q (o :: rest) a (w.alloc (.cells C 69)) := by
  subst hg
  have hC3 : C.size = 2 := by rw [← Array.length_toList, hC]; rfl
  exact wp_app1 w C hgd s0 x0 _ ho B 69 _ 2 40 Try.underlying34 Try.infoFl rfl (by omega) v _ _ hs hown.1 hx hC3 (by rw [hC]; intro u hu; simp [Fl.enc] at hu; rcases hu with rfl | rfl; rfl; exact h1c) (by unfold maxLen; omega) (by omega) hB
    fun v' w' h1 h2 h3 => h v' w' (hown.app (by unfold OwnG; rw [List.length_append, List.flatMap_append]; simpa [← hC] using h1) h2 h3 hr) h2 h3
section
variable {w : World} {B d : Nat} {o : Own1} {S : Dk} {c : Con}
set_option maxHeartbeats 4000000 in
theorem files_any (HS : SortS) (h : DI w B o d S c) (hfl : S.fs.length ≤ 1000000) (hfp : 0 < S.fs.length) :
    Calls Try.prog 13 #[.pointer (some ⟨d, 0, none⟩)] w fun e w' => ∃ v l, e = .returned v ∧ OwnF w' w.heap.size v l ∧ (l.map Fl.n).Perm (S.fs.map Fi.name) ∧ (∀ x ∈ l, x.b = S.nowOf x.n) ∧ w.grownBy w' none := by
  have HNM := Lib.hid (names_any HS h hfl hfp)
  have H := Lib.hid h
  have HFL := Lib.hid hfl
  clear h hfl hfp HS
  go_enter Try.func13, Try.ntmps13
  go_wp2_with fail
  refine HNM.out.mono ?_
  rintro e w1 ⟨v1, ns, rfl, o1, p1, g1⟩
  have HP := Lib.hid p1
  have G1 := Lib.hid g1
  have H1 := Lib.hid (H.out.ext g1)
  have hnl : ns.length ≤ 1000000 := by have := p1.length_eq; have := HFL.out; simp at *; omega
  obtain ⟨A, cc, rfl⟩ := OwnS.form o1
  obtain ⟨_, _, _, g, off, e, hn, hc, _, hA, hx⟩ := Own.rd o1
  cases e
  have HA := Lib.hid hA
  have HC : Hid (∀ k (hk : k < ns.length), w1.cell? ⟨g, off + k, none⟩ = some (.string ⟨ns[k].toArray⟩)) := fun k hk => by
    show w1.cell? ⟨g, off + k, none⟩ = _
    rw [hx k (by omega)]; simp [strL, hk]
  clear p1 g1 o1 hA hx HNM
  go_wp2
  go_loopw [3, 5, 9] (fun u _ i wr => ∃ (k : Nat) (m : List Fl), k ≤ ns.length ∧ i = .int .i64 k ∧ Hid (OwnF wr w1.heap.size u m) ∧ Hid (m.map Fl.n = ns.take k) ∧ Hid (∀ x ∈ m, x.b = S.nowOf x.n) ∧ Hid (m.length = k) ∧ w1.grownBy wr none) (fun _ _ i _ => ns.length - (intOf i).toNat)
  case atStart => exact ⟨0, [], by omega, rfl, OwnF.nil _ _, Lib.hid rfl, Lib.hid (fun x hx => by cases hx), Lib.hid rfl, gr_refl _ _⟩
  case round =>
    obtain ⟨k, m, hk, rfl, ho, hm, hb, hml, hg⟩ := hrel
    obtain ⟨Au, cu, rfl⟩ := OwnF.form ho.out
    by_cases hlt : k < ns.length
    · have := HA.out (by omega)
      subst this
      have c0 := hg.cell (HC.out k hlt) (by simp)
      have HM : Hid (m.map Fl.n ++ [ns[k]] = ns.take (k + 1)) := by show _ = _; rw [hm.out, List.take_succ_eq_append_getElem hlt]
      obtain ⟨nm, hnm⟩ : ∃ nm, nm = ns[k] := ⟨_, rfl⟩
      have hin : nm ∈ S.fs.map Fi.name := HP.out.mem_iff.1 (by rw [hnm]; exact List.getElem_mem hlt)
      rw [← hnm] at c0 HM
      clear hnm hm
      obtain ⟨f, hfm, rfl⟩ := List.mem_map.1 hin
      have hfind : S.find f.name = some f := find_mem H.out.names hfm
      have h5 := H1.out.ext hg
      have hF := h5.file f hfm
      have hc5 : wr.cell? ⟨d, 0, none⟩ = some (.map (some c.mb)) := h5.self.cell 0
      have hk5 := h5.fm.look (s := f.name) (by unfold maxLen; have := hF.small.1; omega)
      rw [dom_some c hfind] at hk5
      have hk6 : wr.cell? ⟨c.fb f.name, 0, none⟩ = some (c.nv f.name) := hF.box.cell 0
      have HL : Hid (f.now.length ≤ 16777216) := hF.small.2.1
      have HR := Lib.hid (Own.rd hF.now)
      have HN : Hid (S.nowOf f.name = f.now) := nowOf_some hfind
      obtain ⟨A2, c2, hnv⟩ := RdB.form HR.out
      rw [hnv] at hk6 HR
      have HCL := Lib.hid (cloneB _ f.now wr HR.out (by have := HL.out; omega))
      have HG := Lib.hid hg
      have hmk : m.length ≤ 1000000 := by have := hml.out; omega
      have hz := hg.size
      clear h5 hF hfind hnv hin hg
      go_wp2_with (first
        | (go_at_call 21; refine HCL.out.mono ?_; rintro e w4 ⟨v4, rfl, o4, g4⟩; have O4 := Lib.hid (ho.out.ext g4); have E4 : Hid (El w4 (Value.slice Au m.length cu) ⟨f.name, f.now, v4⟩) := ⟨Own.rd o4, fun h0 q e => ⟨Own.lies o4 h0 (by omega) q e, fun e2 => by have h7 := ho.out.2.1 q e2; have h8 := Own.lt o4 q e; omega⟩⟩; have G4 := Lib.hid g4; obtain ⟨A4, c4, rfl⟩ := RdB.form (Own.rd o4); clear o4 g4)
        | (at_builtin; refine wp_app1F ⟨f.name, f.now, Value.slice A4 f.now.length c4⟩ _ rfl rfl rfl (.tmp 13) (.tmp 26) rfl rfl O4.out E4.out _ rfl rfl (by omega) (by have := G4.out.size; omega) ?_; intro v6 w6 o6 g6 a6; have O6 := Lib.hid o6; have G6 : w1.grownBy w6 none := gr_trans (gr_none HG.out G4.out) g6 (.inr fun q e => Own.lt ho.out.1 q e); clear o6 g6 a6))
      have HB : Hid (∀ x ∈ m ++ [⟨f.name, f.now, Value.slice A4 f.now.length c4⟩], x.b = S.nowOf x.n) := fun x hx => by
        rcases List.mem_append.1 hx with hx | hx
        · exact hb.out x hx
        · rw [List.mem_singleton.1 hx]; exact HN.out.symm
      go_roundw
      case rel => exact ⟨k + 1, _, by omega, by go_num, O6, Lib.hid (by rw [List.map_append, ← HM.out]; rfl), HB, Lib.hid (by rw [List.length_append, hml.out]; rfl), G6⟩
      case measure => simp [intOf]; omega
    · obtain rfl : k = ns.length := by omega
      have HM : Hid ((m.map Fl.n).Perm (S.fs.map Fi.name)) := by show List.Perm _ _; rw [hm.out, List.take_length]; exact HP.out
      have HG := Lib.hid hg
      clear hm hg
      go_wp2
      go_ret
      exact ⟨_, m, rfl, ho.out.mono G1.out.size, HM.out, hb.out, gr_none G1.out HG.out⟩
end
section
variable {w0 w : World} {d : Nat} {o : Own1} {S : Dk}
theorem DA.files (HS : SortS) (h : DA w0 d o S w) (hfl : S.fs.length ≤ 1000000) (hfp : 0 < S.fs.length) :
    Calls Try.prog 13 #[.pointer (some ⟨d, 0, none⟩)] w fun e w' => ∃ v l, e = .returned v ∧ RdF w' v l ∧ Told w' l S.fs ∧ w.grownBy w' none := by
  obtain ⟨c, h1⟩ := h.di
  refine (files_any HS h1 hfl hfp).mono ?_
  rintro e w' ⟨v, l, rfl, o1, p, b, g⟩
  refine ⟨v, l, rfl, OwnG.rd o1.1, ⟨p, fun x hx => ?_⟩, g⟩
  have : x.n ∈ S.fs.map Fi.name := p.mem_iff.1 (List.mem_map.2 ⟨x, hx, rfl⟩)
  obtain ⟨f, hf, e⟩ := List.mem_map.1 this
  have h2 : S.nowOf x.n = f.now := by rw [← e]; exact nowOf_some (find_mem h1.names hf)
  exact ⟨f, hf, e, by rw [← h2, ← b x hx]; exact (o1.2.2 x hx).1⟩
end
end Go.Proofs.Ythkajgangnmbdaa
