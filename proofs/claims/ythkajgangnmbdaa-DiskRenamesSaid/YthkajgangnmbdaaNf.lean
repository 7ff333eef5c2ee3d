/-
  Files in memory; fileOf.
-/
import Derived.Test.YthkajgangnmbdaaNo
import Derived.Test.YthkajgangnmbdaaRg
namespace Go.Proofs.Ythkajgangnmbdaa
open Go.RowKit
set_option maxRecDepth 100000
set_option maxHeartbeats 400000

structure Fl where
  n : List UInt8
  b : List UInt8
  s : Value
def Fl.enc (x : Fl) : List Value := [.string ⟨x.n.toArray⟩, x.s]
theorem fl2 (x : Fl) : x.enc.length = 2 := rfl
def RdF (w : World) (v : Value) (l : List Fl) : Prop := RdG Fl.enc 2 w v l
def FoundIs (l : List Fl) (n : List UInt8) (e : Ending) : Prop := match l.find? fun x => x.n == n with
  | none => e = .returned (.tuple #[.slice none 0 0, .bool false])
  | some x => e = .returned (.tuple #[x.s, .bool true])
theorem found_some {l : List Fl} {n : List UInt8} {k : Nat} (hk : k < l.length) (h : ∀ x ∈ l.take k, ¬ x.n = n) (e : l[k].n = n) : l.find? (fun x => x.n == n) = some l[k] := by
  have e1 : l = l.take k ++ l[k] :: l.drop (k + 1) := by rw [← List.drop_eq_getElem_cons hk, List.take_append_drop]
  have h0 : (l.take k).find? (fun x => x.n == n) = none := List.find?_eq_none.2 fun x hx => by simpa using h x hx
  have h1 : (l.take k ++ l[k] :: l.drop (k + 1)).find? (fun x => x.n == n) = some l[k] := by
    have h2 : (l[k].n == n) = true := by rw [e]; exact beq_self_eq_true n
    rw [List.find?_append, h0, List.find?_cons, h2]; rfl
  rw [← e1] at h1
  exact h1
theorem fileOf_any (v : Value) (l : List Fl) (n : List UInt8) (w : World) (h : RdF w v l) (hn : l.length ≤ 1000000000) :
    Calls Try.prog 14 #[v, .string ⟨n.toArray⟩] w fun e w' => FoundIs l n e ∧ w.grownBy w' none := by
  obtain ⟨A, c, rfl⟩ := RdG.form h
  obtain ⟨g, off, hA, _, hcells⟩ := RdG.at_ fl2 h
  have HA := Lib.hid hA
  have HC := Lib.hid hcells
  clear hA hcells h
  go_enter Try.func14, Try.ntmps14
  go_wp2
  go_loopw [6] (fun i wr => ∃ k : Nat, k ≤ l.length ∧ i = .int .i64 k ∧ Hid (∀ x ∈ l.take k, ¬ x.n = n) ∧ w.grownBy wr none) (fun i _ => l.length - (intOf i).toNat)
  case atStart => exact ⟨0, by omega, rfl, Lib.hid (fun x hx => by cases hx), gr_refl _ _⟩
  case round =>
    obtain ⟨k, hk, rfl, hall, hg⟩ := hrel
    by_cases hlt : k < l.length
    · have := HA.out (by omega)
      subst this
      have HFS := Lib.hid (found_some hlt hall.out)
      have HNX : Hid (¬ l[k].n = n → ∀ x ∈ l.take (k + 1), ¬ x.n = n) := fun hne x hx => by
        rw [List.take_succ_eq_append_getElem hlt, List.mem_append, List.mem_singleton] at hx
        rcases hx with hx | rfl
        · exact hall.out x hx
        · exact hne
      have h0 := HC.out k hlt 0 (by omega)
      have h1 := HC.out k hlt 1 (by omega)
      clear hall
      rcases hx : l[k] with ⟨a, b, s⟩
      rw [hx] at h0 h1 HFS HNX
      have c0 : wr.cell? ⟨g, off + k * 2, none⟩ = some (.string ⟨a.toArray⟩) := hg.cell h0 (by simp)
      have c1 : wr.cell? ⟨g, off + k * 2 + 1, none⟩ = some s := hg.cell h1 (by simp)
      clear hx h0 h1
      by_cases hne : a = n
      · have b1 : (a == n) = true := by simpa using hne
        have HE : Hid (FoundIs l n (.returned (.tuple #[s, .bool true]))) := by
          show FoundIs _ _ _
          unfold FoundIs
          rw [HFS.out hne]
        clear hne
        go_wp2
        go_ret2
        exact ⟨HE.out, hg⟩
      · have b1 : (a == n) = false := by simpa using hne
        have HN := Lib.hid (HNX.out hne)
        clear hne
        go_wp2
        go_roundw
        case rel => exact ⟨k + 1, by omega, by go_num, HN, hg⟩
        case measure => simp [intOf]; omega
    · obtain rfl : k = l.length := by omega
      have HE : Hid (FoundIs l n (.returned (.tuple #[.slice none 0 0, .bool false]))) := by
        show FoundIs _ _ _
        have h1 := hall.out
        rw [List.take_length] at h1
        unfold FoundIs
        rw [List.find?_eq_none.2 fun x hx => by simpa using h1 x hx]
      clear hall
      go_wp2
      go_ret2
      exact ⟨HE.out, hg⟩
end Go.Proofs.Ythkajgangnmbdaa
