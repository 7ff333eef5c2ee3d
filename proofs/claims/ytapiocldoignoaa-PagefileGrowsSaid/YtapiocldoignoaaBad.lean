/-
  pagefile.Open and Bad, on a file of whole pages.
-/
import Derived.Test.YtapiocldoignoaaRotIt
import Derived.Maps.AppendAt
namespace Go.Proofs.Ytapiocldoignoaa
open Go.RowKit Go.Shelf
set_option maxRecDepth 100000
set_option maxHeartbeats 400000
attribute [local go_sem] Oper.semAt_some

def natL (xs : List Nat) : List Value := xs.map fun (k : Nat) => Value.int .i64 (k : Int)
theorem natL_snoc (xs : List Nat) (k : Nat) : natL (xs ++ [k]) = natL xs ++ [.int .i64 (k : Int)] := by simp [natL]
theorem Try.infoI : (Try.prog.info? 3).map (fun i => (i.zero, i.size, i.bytes)) = some (some (.int .i64 0), 1, 8) := by kernel_rfl
theorem ownsRow_down {W : World} {b b' : Nat} {e : TypeId} {s : Nat} {v : Value} {k : Nat} {xs : List Value} (h : W.ownsRow b e s v k xs) (hb : b' ≤ b) : W.ownsRow b' e s v k xs := by
  refine ⟨h.1, ?_⟩
  rcases h.2 with h2 | ⟨g, cap, cur, r1, r2, r3⟩
  · exact .inl h2
  · exact .inr ⟨g, cap, cur, r1, Nat.le_trans hb r2, r3⟩
theorem ownsRow_base {W : World} {b : Nat} {e : TypeId} {s : Nat} {v : Value} {k : Nat} {xs : List Value} (h : W.ownsRow b e s v k xs) : ∀ g, v.ownBlock = some g → b ≤ g := by
  intro g hg
  rcases h.2 with ⟨rfl, _⟩ | ⟨g', cap, cur, rfl, hb, _⟩
  · simp [Value.ownBlock] at hg
  · obtain rfl : g' = g := by simpa [Value.ownBlock] using hg
    exact hb
theorem boxed_app {W w1 : World} {n0 n1 B : Nat} {t e : TypeId} {size : Nat} {v v' : Value} {k m : Nat} {xs ys : List Value} {tmp : Obj}
    (hv : Boxed W B t v) (hte : t ≠ e) (hrow : W.ownsRow n1 e size v k xs) (hn1 : n1 ≤ W.heap.size) (hn0 : n0 ≤ B) (hB : B < n1)
    (hown' : w1.ownsRow n1 e size v' m ys) (hgrow : (W.alloc tmp).grownBy w1 v.ownBlock) :
    Boxed w1 B t v ∧ Boxed (w1.setCell ⟨B, 0, none⟩ v') B t v' ∧ (w1.setCell ⟨B, 0, none⟩ v').ownsRow n1 e size v' m ys ∧ KeepsOthers W (w1.setCell ⟨B, 0, none⟩ v') ∧ Below n0 W (w1.setCell ⟨B, 0, none⟩ v') ∧ KeepBut B n1 W (w1.setCell ⟨B, 0, none⟩ v') := by
  obtain ⟨h1, h2, _, h4, h5⟩ := hv.appended hte (ownsRow_down hrow (show n0 ≤ n1 by omega)) (by omega) hn0 (ownsRow_down hown' (show n0 ≤ n1 by omega)) hgrow
  refine ⟨h1, h2, hown'.kept (grownBy_setCell' w1 B v') (.inr (h1.not_row hte hown').symm), h4, h5, ?_⟩
  have k1 : KeepBut B n1 W (W.alloc tmp) := KeepBut.of_gr (gr_alloc W tmp none) hn1 (fun k e => by cases e)
  have k2 : KeepBut B n1 (W.alloc tmp) w1 := KeepBut.of_gr hgrow (by simp; omega) (fun k e => .inr (ownsRow_base hrow k e))
  have k3 : KeepBut B n1 w1 (w1.setCell ⟨B, 0, none⟩ v') := KeepBut.of_gr (grownBy_setCell' w1 B v') (by have := hgrow.size; simp at this; omega) (fun k e => by cases e; exact .inl rfl)
  exact (k1.trans k2).trans k3
section
variable {w : World} {B d : Nat} {o : Own1} {S : Dk} {c : Con} {nm : List UInt8}
theorem popen_ok (h : DI w B o d S c) (hn : nm.length ≤ 1000000000) {np : Nat} (hs : S.size nm = (256 * np, 0)) :
    Calls Try.prog 17 #[.pointer (some ⟨d, 0, none⟩), .string ⟨nm.toArray⟩] w fun e w' => ∃ pf, e = .returned (.tuple #[.pointer (some ⟨pf, 0, none⟩), .int .i64 0]) ∧ w.heap.size ≤ pf ∧ PfR w' w.heap.size o d pf nm ∧ w.grownBy w' none := by
  have hz := (size_le h nm).1
  rw [hs] at hz
  have hSZ := size_any h nm hn
  rw [hs] at hSZ
  have HS : Hid (Calls Try.prog 24 #[.pointer (some ⟨d, 0, none⟩), .string ⟨nm.toArray⟩] w fun e w' => e = .returned (.tuple #[.int .i64 (256 * (np : Int)), .int .i64 0]) ∧ w.grownBy w' none) := by
    show Calls _ _ _ _ _
    have e : ((256 * np : Nat) : Int) = 256 * (np : Int) := by push_cast; rfl
    simp only [e] at hSZ
    exact hSZ
  have HM := Lib.hid (made_any d nm hn)
  have HF : Hid (∀ i, w.heap.size ≤ i → o i = none) := fun i hi => by
    cases e : o i with
    | none => rfl
    | some t => exact absurd (h.inb i (by rw [e]; simp)).2 (by omega)
  clear h hSZ hs
  have hz2 : (256 * (np : Int)) % 256 = 0 := by omega
  have hz3 : (0 : Int) ≤ 256 * (np : Int) := by omega
  have hz4 : 256 * (np : Int) ≤ 16777216 := by simp at hz; omega
  have hz5 : ((256 * (np : Int)) % 256 != 0) = false := by rw [bne_eq_false_iff_eq]; exact hz2
  clear hz hz2
  go_enter Try.func17, Try.ntmps17
  go_wp2_with fail
  refine HS.out.mono ?_
  rintro e w1 ⟨rfl, g1⟩
  have G1 := Lib.hid g1
  clear g1
  go_wp2_with fail
  refine (HM.out _).mono ?_
  rintro e w2 ⟨pf, rfl, hpf, hb, g2⟩
  have HB := Lib.hid hb
  have G2 := Lib.hid g2
  have hpf2 : w.heap.size ≤ pf := Nat.le_trans G1.out.size hpf
  clear hb g2
  go_wp2
  go_ret2
  exact ⟨pf, rfl, hpf2, ⟨HB.out, HF.out pf hpf2, hpf2⟩, gr_none G1.out G2.out⟩
theorem rotten_any (pf : Nat) (np : Nat) (w : World) :
    Calls Try.prog 33 #[.pointer (some ⟨pf, 0, none⟩), .int .i64 np] w fun e w' => e = .returned (.func (.func 51) #[] #[.pointer (some ⟨w.heap.size + 1, 0, none⟩), .pointer (some ⟨w.heap.size, 0, none⟩)]) ∧
      w' = (w.alloc (.cells #[.pointer (some ⟨pf, 0, none⟩)] 26)).alloc (.cells #[.int .i64 np] 3) := by
  go_enter Try.func33, Try.ntmps33
  go_wp2
  go_ret
  exact ⟨rfl, rfl⟩
end
end Go.Proofs.Ytapiocldoignoaa
