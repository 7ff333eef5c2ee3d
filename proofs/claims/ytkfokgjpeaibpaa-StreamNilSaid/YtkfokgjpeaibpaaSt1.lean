/-
  stream: no stream; Open; per; what is put behind.
-/
import Derived.Test.YtkfokgjpeaibpaaPo6
namespace Go.Proofs.Ytkfokgjpeaibpaa
open Go.RowKit Go.Maps
set_option maxRecDepth 100000
set_option maxHeartbeats 400000

theorem sopen_nil (w : World) (s : ByteArray) (k : Int) : Calls Try.prog 14 #[.pointer none, .string s, .int .i64 k] w fun e w' => e = .returned (.tuple #[.pointer none, .int .i64 2]) ∧ w = w' := by
  go_enter Try.func14, Try.ntmps14
  go_wp2
  go_ret2
  exact ⟨rfl, rfl⟩
theorem slen_nil (w : World) : Calls Try.prog 15 #[.pointer none] w fun e w' => e = .returned (.tuple #[.int .i64 0, .int .i64 2]) ∧ w = w' := by
  go_enter Try.func15, Try.ntmps15
  go_wp2
  go_ret2
  exact ⟨rfl, rfl⟩
theorem sget_nil (w : World) (k : Int) : Calls Try.prog 16 #[.pointer none, .int .i64 k] w fun e w' => e = .returned (.tuple #[.slice none 0 0, .int .i64 2]) ∧ w = w' := by
  go_enter Try.func16, Try.ntmps16
  go_wp2
  go_ret2
  exact ⟨rfl, rfl⟩
theorem sadd_nil (w : World) (A : Option Addr) (n c : Nat) : Calls Try.prog 9 #[.pointer none, .slice A n c] w fun e w' => e = .returned (.int .i64 2) ∧ w.grownBy w' none := by
  go_enter Try.func9, Try.ntmps9
  go_wp2
  go_ret
  exact ⟨rfl, gr_alloc _ _ _⟩
theorem sset_nil (w : World) (k : Int) (A : Option Addr) (n c : Nat) : Calls Try.prog 17 #[.pointer none, .int .i64 k, .slice A n c] w fun e w' => e = .returned (.int .i64 2) ∧ w.grownBy w' none := by
  go_enter Try.func17, Try.ntmps17
  go_wp2
  go_ret
  exact ⟨rfl, gr_alloc _ _ _⟩
/-- a stream in memory. -/
structure StR (w : World) (B p sb : Nat) (n : List UInt8) (size : Nat) : Prop where
  box : Blk w sb 65 #[.pointer (some ⟨p, 0, none⟩), .string ⟨n.toArray⟩, .int .i64 size]
  sB : B ≤ sb
  lim : 1 ≤ size ∧ size ≤ 240
section
variable {w w' : World} {B d p g mb nm sb size : Nat} {o : Own1} {P : Pl} {S : Dk} {c : Con} {n : List UInt8}
theorem StR.ext (h : StR w B p sb n size) (hg : w.grownBy w' none) : StR w' B p sb n size := ⟨h.box.ext hg, h.sB, h.lim⟩
theorem StR.ch {o1 o2 : Own1} (h : StR w B p sb n size) (hc : Ch o1 w o2 w') (ho : o1 sb = none) : StR w' B p sb n size := ⟨hc.blk h.box ho, h.sB, h.lim⟩
theorem sper_any (h : StR w B p sb n size) : Calls Try.prog 36 #[.pointer (some ⟨sb, 0, none⟩)] w fun e w' => e = .returned (.int .i64 (240 / size : Nat)) ∧ w = w' := by
  have c2 : w.cell? ⟨sb, 2, none⟩ = some (.int .i64 size) := h.box.cell 2
  have h1 := h.lim.1
  have h2 := h.lim.2
  have hne : ((size : Int) == 0) = false := by rw [beq_eq_false_iff_ne]; omega
  have hne2 : ¬ ((size : Int) = 0) := by omega
  clear h
  go_enter Try.func36, Try.ntmps36
  go_wp2
  go_ret
  exact ⟨by congr 2, rfl⟩
theorem sopen_any (h : DI w B o d S c) (hp : PoR w B o d p g mb P nm) (hn : n.length ≤ 1000000000) (hpg : (S.pgs n).2 = 0) (h1 : 1 ≤ size) (h2 : size ≤ 240) :
    Calls Try.prog 14 #[.pointer (some ⟨p, 0, none⟩), .string ⟨n.toArray⟩, .int .i64 size] w fun e w' => ∃ sb, e = .returned (.tuple #[.pointer (some ⟨sb, 0, none⟩), .int .i64 0]) ∧ w.heap.size ≤ sb ∧ StR w' w.heap.size p sb n size ∧ w.grownBy w' none := by
  have HPG := Lib.hid (ppages_any h hp hn)
  have HE := Lib.hid hpg
  have d1 : decide ((size : Int) < 1) = false := by simp; omega
  have d2 : decide ((240 : Int) < (size : Int)) = false := by simp; omega
  obtain ⟨m, hm⟩ : ∃ m, m = pagesN P.fr n (S.pgs n).1 := ⟨_, rfl⟩
  rw [← hm] at HPG
  clear h hp hpg hm
  go_enter Try.func14, Try.ntmps14
  go_wp2_with fail
  refine HPG.out.mono ?_
  rintro e w1 ⟨g1, ⟨he, rfl⟩ | ⟨-, rfl⟩⟩
  · exact absurd HE.out he
  have G1 := Lib.hid g1
  clear g1 HPG
  go_wp2
  go_ret2
  exact ⟨_, rfl, G1.out.size, ⟨Blk.new _ _ _, G1.out.size, h1, h2⟩, gr_none G1.out (gr_alloc _ _ _)⟩
/-- what is put behind a page's bytes. -/
theorem sadd1_any {B0 : Nat} {v : Value} {l : List UInt8} {rv : Value} {r : List UInt8} {bx : Nat} (hv : OwnB w B0 v l) (hr : RdB w rv r) (hb : Blk w bx 27 #[rv]) (hn : l.length + r.length ≤ 1000000) (hB : B0 ≤ w.heap.size) :
    Calls Try.prog 31 #[v, .pointer (some ⟨bx, 0, none⟩)] w fun e w' => ∃ v', e = .returned v' ∧ OwnB w' B0 v' (l ++ r) ∧ w.grownBy w' v.ownBlock := by
  obtain ⟨A, c, rfl⟩ := RdB.form (Own.rd hv)
  obtain ⟨A2, c2, rfl⟩ := hr.form
  have c0 : w.cell? ⟨bx, 0, none⟩ = some (.slice A2 r.length c2) := hb.cell 0
  have HV := Lib.hid hv
  have HR := Lib.hid hr
  clear hv hr hb
  go_enter Try.func31, Try.ntmps31
  go_wp2_with (at_builtin; refine wp_appB rfl (.tmp 4) (.tmp 5) rfl rfl HV.out rfl HR.out (by omega) hB ?_; intro v6 w6 h6 g6 a6)
  go_ret
  exact ⟨_, rfl, h6, g6⟩
end
end Go.Proofs.Ytkfokgjpeaibpaa
