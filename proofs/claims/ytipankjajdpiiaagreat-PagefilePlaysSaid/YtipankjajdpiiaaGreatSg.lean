/-
  The files of a disk and of the document's, side by side.
-/
import Derived.Test.YtipankjajdpiiaaGreatSk
import Derived.Test.YtipankjajdpiiaaGreatNs
import Derived.Test.YtipankjajdpiiaaGreatSf
namespace Go.Proofs.YtipankjajdpiiaaGreat
open Go.RowKit Go.Maps
set_option maxRecDepth 100000
set_option maxHeartbeats 400000

theorem bl_le : ∀ (x y : List UInt8), bl x y = true → x ≤ y
  | [], _, _ => List.nil_le _
  | _ :: _, [], h => by cases h
  | a :: x, b :: y, h => by
    simp only [bl, Op.bytesLess, Bool.or_eq_true, decide_eq_true_eq, Bool.and_eq_true, beq_iff_eq] at h
    rw [List.cons_le_cons_iff]
    rcases h with h | ⟨rfl, h⟩
    · exact .inl h
    · exact .inr ⟨rfl, bl_le x y h⟩
section
variable {w0 w w' w1 : World} {d r : Nat} {S : Dk} {R : RD} {O o : Own1}
theorem RS.low (h : RS w1 w r O R) (g : w0.grownBy w1 none) : RS w0 w r O R := by
  obtain ⟨A, N, c, l, h, hl⟩ := h
  exact ⟨A, N, c, l, ⟨h.len, h.self, Own.mono h.own g.size, h.ok, h.lo, h.me, fun i hi => ⟨Nat.le_trans g.size (h.inb i hi).1, (h.inb i hi).2⟩, gr_none g h.gr, h.lim⟩, hl⟩
theorem Sim.len (h : Sim S R) : R.L.length = S.fs.length := by have := h.fs.length_eq; rw [List.length_map] at this; exact this
/-- the files, in the same order. -/
theorem Sim.files (h : Sim S R) {l l' : List Fl} (hn : l.map Fl.n = sortN (S.fs.map Fi.name)) (hb : ∀ x ∈ l, x.b = S.nowOf x.n) (hl' : l'.map (fun x => (x.n, x.b)) = R.L.map fun f => (f.n, f.now)) :
    l.map (fun x => (x.n, x.b)) = l'.map fun x => (x.n, x.b) := by
  have e1 : sortN (S.fs.map Fi.name) = R.L.map Rf.n := by
    have hp : (sortN (S.fs.map Fi.name)).Perm (R.L.map Rf.n) := (sortN_prm _).trans (by have := h.fs.map Fi.name; rw [map_fi_name] at this; exact this.symm)
    refine hp.eq_of_pairwise (le := fun x y => x ≤ y) (fun _ _ _ _ h1 h2 => List.le_antisymm h1 h2) (sortN_up _) ?_
    rw [List.pairwise_map]
    exact h.up.imp fun {x y} h => bl_le _ _ h
  have hN : (S.fs.map Fi.name).Nodup := (h.fs.map Fi.name).nodup_iff.1 (by rw [map_fi_name]; exact h.nodup)
  rw [hl']
  rw [e1] at hn
  have e2 : l.map (fun x => (x.n, x.b)) = (l.map Fl.n).map fun n => (n, S.nowOf n) := by
    rw [List.map_map]
    exact List.map_congr_left fun x hx => by show (x.n, x.b) = (x.n, S.nowOf x.n); rw [hb x hx]
  rw [e2, hn, List.map_map]
  refine List.map_congr_left fun f hf => ?_
  show (f.n, S.nowOf f.n) = (f.n, f.now)
  have hp : f.fi ∈ S.fs := h.fs.mem_iff.1 (List.mem_map.2 ⟨f, hf, rfl⟩)
  have : S.find f.n = some f.fi := find_mem hN hp
  rw [nowOf_some this]; rfl
theorem alike_of {w : World} {l l' : List Fl} (e : l.map (fun x => (x.n, x.b)) = l'.map fun x => (x.n, x.b)) (h1 : ∀ x ∈ l, RdB w x.s x.b ∧ x.b.length ≤ 1000000000) (h2 : ∀ x ∈ l', RdB w x.s x.b) : Alike w l l' := by
  have hl : l.length = l'.length := by have := congrArg List.length e; simpa using this
  refine ⟨hl, fun i hi hi' => ?_⟩
  have h3 : (l.map fun x => (x.n, x.b))[i]? = (l'.map fun x => (x.n, x.b))[i]? := by rw [e]
  rw [List.getElem?_map, List.getElem?_map, List.getElem?_eq_getElem hi, List.getElem?_eq_getElem hi'] at h3
  have h4 := Option.some.inj h3
  have k1 := h1 l[i] (List.getElem_mem hi)
  exact ⟨congrArg Prod.fst h4, congrArg Prod.snd h4, k1.2, k1.1, h2 l'[i] (List.getElem_mem hi')⟩
def SFl (_d r : Nat) (w : World) (e : Ending) (w2 : World) : Prop :=
  ∃ (A : Option Addr) (c : Nat) (l : List Fl), e = .returned (.slice A l.length c) ∧ w.grownBy w2 none ∧ ∀ wx, w2.grownBy wx none → Calls Tryz.prog 16 #[.pointer (some ⟨r, 0, none⟩)] wx fun e w3 => ∃ (A' : Option Addr) (c' : Nat) (l' : List Fl), e = .returned (.slice A' l'.length c') ∧ wx.grownBy w3 none ∧ Calls Tryz.prog 14 #[.slice A l.length c, .slice A' l'.length c'] w3 fun e w' => e = .returned (.bool true) ∧ w3.grownBy w' none
end
end Go.Proofs.YtipankjajdpiiaaGreat
