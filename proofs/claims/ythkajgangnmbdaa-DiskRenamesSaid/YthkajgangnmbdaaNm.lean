/-
  disk.Names: the names collected.
-/
import Derived.Test.YthkajgangnmbdaaRen
import Derived.Sort.EncStr
namespace Go.Proofs.Ythkajgangnmbdaa
open Go.RowKit
set_option maxRecDepth 100000
set_option maxHeartbeats 400000

theorem Try.infoStr : (Try.prog.info? 9).map (fun i => (i.zero, i.size, i.bytes)) = some (some (.string ⟨#[]⟩), 1, 16) := by kernel_rfl
def strL (l : List (List UInt8)) : List Value := l.map fun s => .string ⟨s.toArray⟩
theorem strL_app (l m : List (List UInt8)) : strL (l ++ m) = strL l ++ strL m := by simp [strL]
theorem strL_len (l : List (List UInt8)) : (strL l).length = l.length := by simp [strL]
abbrev OwnS (w : World) (B : Nat) (v : Value) (l : List (List UInt8)) : Prop := Own w B 1 v l.length (strL l)
theorem OwnS.form {w : World} {B : Nat} {v : Value} {l : List (List UInt8)} (h : OwnS w B v l) : ∃ A c, v = .slice A l.length c := by obtain ⟨_, A, c, _, _, e, _⟩ := h; exact ⟨A, c, e⟩
/-- append(v, s). -/
theorem wp_app1S {ops : Array Oper} {rest : List Oper} {o : Oper} {a : Act} {Q : Exit → Act → World → Prop} {w : World} (r : List UInt8) (C : Array Value) (hC : C.toList = strL [r]) (hgd : o.guard = none) (s0 x0 : Operand)
    (ho : o.op = .call { callee := .builtin .append, args := #[s0, x0], argTypes := #[66, 66] }) {B : Nat} {v : Value} {l : List (List UInt8)} (hs : a.eval s0 = v) (hown : OwnS w B v l)
    (g : Nat) (hx : a.eval x0 = .slice (some ⟨g, 0, none⟩) 1 1) (hg : g = w.heap.size) (hn : l.length ≤ 1000000000) (hB : B ≤ w.heap.size)
    (h : ∀ v' w', OwnS w' B v' (l ++ [r]) → w.grownBy w' v.ownBlock → (v'.ownBlock = v.ownBlock ∨ ∃ k, v'.ownBlock = some k ∧ w.heap.size ≤ k) → wpList Try.prog ops Q rest (a.put o.dst v') w') :
    wpList Try.prog ops Q (o :: rest) a (w.alloc (.cells C 9)) := by
  subst hg
  have hC3 : C.size = 1 := by rw [← Array.length_toList, hC]; rfl
  exact wp_app1 w C hgd s0 x0 _ ho B 9 _ 1 16 Try.underlying66 Try.infoStr rfl (by omega) v _ _ hs hown hx hC3 (by rw [hC]; intro u hu; simp [strL] at hu; subst hu; rfl) (by unfold maxLen; omega) (by omega) hB
    fun v' w' h1 h2 h3 => h v' w' (by unfold OwnS; rw [List.length_append, strL_app, ← hC]; exact h1) h2 h3
/-- the names met so far. -/
def Met (dom : List UInt8 → Option Nat) (left : List UInt8 → Bool) (l : List (List UInt8)) : Prop := l.Nodup ∧ ∀ s, s ∈ l ↔ (dom s).isSome = true ∧ left s = false
theorem Met.start {dom : List UInt8 → Option Nat} {left : List UInt8 → Bool} (h : ∀ s b, dom s = some b → left s = true) : Met dom left [] := ⟨List.nodup_nil, fun s => ⟨(fun h => by cases h), fun ⟨h1, h2⟩ => by
  obtain ⟨b, hb⟩ := Option.isSome_iff_exists.1 h1
  rw [h s b hb] at h2
  cases h2⟩⟩
theorem Met.step {dom : List UInt8 → Option Nat} {left : List UInt8 → Bool} {l : List (List UInt8)} (h : Met dom left l) {s : List UInt8} {b : Nat} (hl : left s = true) (hd : dom s = some b) : Met dom (fun x => left x && !(x == s)) (l ++ [s]) := by
  have hn : s ∉ l := fun hm => by have := ((h.2 s).1 hm).2; rw [hl] at this; cases this
  refine ⟨List.nodup_append.2 ⟨h.1, by simp, fun a ha c hc => by rw [List.mem_singleton.1 hc]; exact fun e => hn (e ▸ ha)⟩, fun x => ?_⟩
  rw [List.mem_append, List.mem_singleton, h.2]
  by_cases e : x = s
  · subst e
    simp [hd]
  · simp [e]
theorem Met.done {fs : List Fi} {fb : List UInt8 → Nat} {left : List UInt8 → Bool} {l : List (List UInt8)} (h : Met (domOf fs fb) left l) (hl : ∀ s, left s = false) (hN : (fs.map Fi.name).Nodup) : l.Perm (fs.map Fi.name) := by
  rw [List.perm_ext_iff_of_nodup h.1 hN]
  intro s
  rw [h.2, List.mem_map]
  unfold domOf
  constructor
  · rintro ⟨h1, _⟩
    cases hq : fs.find? (fun f => f.name == s) with
    | none => rw [hq] at h1; cases h1
    | some f => exact ⟨f, List.mem_of_find?_eq_some hq, by simpa using List.find?_some hq⟩
  · rintro ⟨f, hf, rfl⟩
    rw [find_mem hN hf]
    exact ⟨rfl, hl _⟩
end Go.Proofs.Ythkajgangnmbdaa
