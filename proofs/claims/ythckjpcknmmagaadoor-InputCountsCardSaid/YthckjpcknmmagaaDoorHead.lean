/-
  input.head and its reference: an input's head.
-/
import Derived.Test.YthckjpcknmmagaaDoorFits
namespace Go.Proofs.YthckjpcknmmagaaDoor
open Go.RowKit
set_option maxRecDepth 100000
set_option maxHeartbeats 400000

/-- what is wrong, and where; as an error. -/
abbrev Flt := Option (Nat × Nat)
def errV : Flt → Value
  | none => .nilIface
  | some (e, p) => .iface 69 (.agg #[.int .i64 e, .int .i64 p])

def magic : List UInt8 := [77, 80, 71, 49]
/-- the first place at which bytes are not those of the mark. -/
def mis (b : List UInt8) : List UInt8 → Nat → Option Nat
  | [], _ => none
  | c :: cs, i => if b[i]? = some c then mis b cs (i + 1) else some i
def headM (b : List UInt8) : Nat × Nat × Flt :=
  match mis b magic 0 with
  | some i => (0, 0, some (8, i))
  | none =>
    if b.length < 12 then (0, 0, some (8, b.length))
    else if 2147483647 < rdN ((b.drop 4).take 4) then (0, 0, some (9, 4))
    else if 16777216 < rdN ((b.drop 8).take 4) then (0, 0, some (9, 8))
    else if rdN ((b.drop 4).take 4) = 0 ∧ 0 < rdN ((b.drop 8).take 4) then (0, 0, some (8, 8))
    else (rdN ((b.drop 4).take 4), rdN ((b.drop 8).take 4), none)
def HeadRes (b : List UInt8) : Value := .tuple #[.int .u64 (headM b).1, .int .u64 (headM b).2.1, errV (headM b).2.2]

theorem mis_lt {b : List UInt8} : ∀ {cs : List UInt8} {i j : Nat}, mis b cs i = some j → i ≤ j ∧ j < i + cs.length
  | [], _, _, h => by cases h
  | c :: cs, i, j, h => by
    unfold mis at h
    split at h
    · have := mis_lt h; simp; omega
    · cases h; simp
theorem mis_none {b : List UInt8} : ∀ {cs : List UInt8} {i : Nat}, mis b cs i = none → ∀ j (h : j < cs.length), b[i + j]? = some cs[j]
  | [], _, _, j, h => by simp at h
  | c :: cs, i, hm, j, h => by
    unfold mis at hm
    split at hm
    · rename_i hc
      cases j with
      | zero => simpa using hc
      | succ j => have := mis_none hm j (by simpa using h); rw [show i + (j + 1) = i + 1 + j from by omega, this]; simp
    · cases hm
theorem mis_at {b : List UInt8} : ∀ {cs : List UInt8} {i j : Nat}, mis b cs i = some (i + j) → (∀ k, k < j → b[i + k]? = cs[k]?) ∧ b[i + j]? ≠ cs[j]?
  | [], _, _, h => by cases h
  | c :: cs, i, j, h => by
    unfold mis at h
    split at h
    · rename_i hc
      have hl := mis_lt h
      obtain ⟨j, rfl⟩ : ∃ j', j = j' + 1 := ⟨j - 1, by omega⟩
      obtain ⟨h1, h2⟩ := mis_at (i := i + 1) (j := j) (by rw [show i + 1 + j = i + (j + 1) from by omega]; exact h)
      refine ⟨fun k hk => ?_, by rw [show i + (j + 1) = i + 1 + j from by omega]; simpa using h2⟩
      cases k with
      | zero => simpa using hc
      | succ k => rw [show i + (k + 1) = i + 1 + k from by omega]; simpa using h1 k (by omega)
    · rename_i hc
      have : j = 0 := by simp at h; omega
      subst this
      exact ⟨fun k hk => by omega, by simpa using hc⟩

theorem mis_step (b : List UInt8) (k : Nat) (hk : k < 4) : mis b (magic.drop k) k = if b[k]? = some (magic[k]'hk) then mis b (magic.drop (k + 1)) (k + 1) else some k := by
  match k, hk with
  | 0, _ => rfl
  | 1, _ => rfl
  | 2, _ => rfl
  | 3, _ => rfl
theorem magic_at (k : Nat) (hk : k < 4) (h : k < (⟨#[77, 80, 71, 49]⟩ : ByteArray).size) : (⟨#[77, 80, 71, 49]⟩ : ByteArray)[k]'h = magic[k]'hk := by
  match k, hk with
  | 0, _ => rfl
  | 1, _ => rfl
  | 2, _ => rfl
  | 3, _ => rfl
theorem mis_hit {b : List UInt8} {k : Nat} {hk : k < b.length} {h : k < (⟨#[77, 80, 71, 49]⟩ : ByteArray).size} (hk4 : k < 4) (ht : ((b[k].toNat : Int) != ((⟨#[77, 80, 71, 49]⟩ : ByteArray)[k]'h).toNat) = true) : mis b (magic.drop k) k = some k := by
  rw [mis_step b k hk4, if_neg]
  rw [magic_at k hk4 h] at ht
  rw [List.getElem?_eq_getElem hk]
  intro e
  rw [Option.some.inj e] at ht
  simp at ht
theorem mis_next {b : List UInt8} {k : Nat} {hk : k < b.length} {h : k < (⟨#[77, 80, 71, 49]⟩ : ByteArray).size} (hk4 : k < 4) (ht : ((b[k].toNat : Int) != ((⟨#[77, 80, 71, 49]⟩ : ByteArray)[k]'h).toNat) = false) : mis b (magic.drop k) k = mis b (magic.drop (k + 1)) (k + 1) := by
  rw [mis_step b k hk4, if_pos]
  rw [magic_at k hk4 h] at ht
  rw [List.getElem?_eq_getElem hk]
  congr 1
  simp at ht
  exact UInt8.toNat_inj.1 (by omega)
theorem mis_out {b : List UInt8} {k : Nat} (hk : b.length ≤ k) (hk4 : k < 4) : mis b (magic.drop k) k = some k := by
  rw [mis_step b k hk4, if_neg]
  rw [List.getElem?_eq_none hk]; simp
theorem head_hit {b : List UInt8} {i : Nat} (h : mis b magic 0 = some i) : headM b = (0, 0, some (8, i)) := by unfold headM; rw [h]
theorem head_short {b : List UInt8} (h : mis b magic 0 = none) (hl : b.length < 12) : headM b = (0, 0, some (8, b.length)) := by unfold headM; rw [h]; simp [hl]
theorem head_n {b : List UInt8} (h : mis b magic 0 = none) (hl : ¬ b.length < 12) (hn : 2147483647 < rdN ((b.drop 4).take 4)) : headM b = (0, 0, some (9, 4)) := by unfold headM; rw [h]; simp [hl, hn]
theorem head_m {b : List UInt8} (h : mis b magic 0 = none) (hl : ¬ b.length < 12) (hn : ¬ 2147483647 < rdN ((b.drop 4).take 4)) (hm : 16777216 < rdN ((b.drop 8).take 4)) : headM b = (0, 0, some (9, 8)) := by
  unfold headM; rw [h]; simp only [hl, hn, hm, if_true, if_false]
theorem head_z {b : List UInt8} (h : mis b magic 0 = none) (hl : ¬ b.length < 12) (hn : ¬ 2147483647 < rdN ((b.drop 4).take 4)) (hm : ¬ 16777216 < rdN ((b.drop 8).take 4)) (hz : rdN ((b.drop 4).take 4) = 0 ∧ 0 < rdN ((b.drop 8).take 4)) : headM b = (0, 0, some (8, 8)) := by
  unfold headM; rw [h]; simp only [hl, hn, hm, if_false]; rw [if_pos hz]
theorem head_ok {b : List UInt8} (h : mis b magic 0 = none) (hl : ¬ b.length < 12) (hn : ¬ 2147483647 < rdN ((b.drop 4).take 4)) (hm : ¬ 16777216 < rdN ((b.drop 8).take 4)) (hz : ¬ (rdN ((b.drop 4).take 4) = 0 ∧ 0 < rdN ((b.drop 8).take 4))) :
    headM b = (rdN ((b.drop 4).take 4), rdN ((b.drop 8).take 4), none) := by
  unfold headM; rw [h]; simp only [hl, hn, hm, if_false]; rw [if_neg hz]

/-- four results of a reference. -/
def Res4 (b : List UInt8) (e : Ending) : Prop :=
  e = .returned (.tuple #[.int .u32 (headM b).1, .int .u32 (headM b).2.1, .int .i64 (((headM b).2.2.getD (0, 0)).1 : Nat), .int .i64 (((headM b).2.2.getD (0, 0)).2 : Nat)])
theorem res4_of {b : List UInt8} {n m e p : Nat} {f : Flt} (h : headM b = (n, m, f)) (he : (f.getD (0, 0)) = (e, p)) : Res4 b (.returned (.tuple #[.int .u32 n, .int .u32 m, .int .i64 e, .int .i64 p])) := by
  unfold Res4; rw [h]; simp [he]

def ResH (b : List UInt8) (e : Ending) : Prop := e = .returned (.tuple #[.int .u64 (headM b).1, .int .u64 (headM b).2.1, errV (headM b).2.2])
theorem resH_of {b : List UInt8} {n m : Nat} {f : Flt} (h : headM b = (n, m, f)) : ResH b (.returned (.tuple #[.int .u64 n, .int .u64 m, errV f])) := by
  unfold ResH; rw [h]

theorem head_any (v : Value) (b : List UInt8) (w : World) (h : RdB w v b) (hl : b.length ≤ 1000000000) :
    Calls Tryd.prog 22 #[v] w fun e w' => ResH b e ∧ w.grownBy w' none := by
  have H0 := Lib.hid h
  obtain ⟨hle, A, c, g, off, rfl, hnc, hc, hA0, hA, hx⟩ := h
  clear hle hA0
  go_enter Tryd.func22, Tryd.ntmps22
  go_wp2
  go_loopw [6] (fun i wr => ∃ k : Nat, k ≤ 4 ∧ i = .int .i64 k ∧ mis b magic 0 = mis b (magic.drop k) k ∧ w.grownBy wr none) (fun i _ => 4 - (intOf i).toNat)
  case atStart => exact ⟨0, by omega, rfl, rfl, gr_refl _ _⟩
  case round =>
    obtain ⟨k, hk, rfl, hm, hg⟩ := hrel
    have Hm := Lib.hid hm
    clear hm
    by_cases hk4 : k < 4
    · by_cases hkl : k < b.length
      · have := hA (by omega)
        subst this
        have hcell : wr.cell? ⟨g, off + k, none⟩ = some (.int .u8 b[k].toNat) := hg.cell (by rw [hx k (by omega)]; simp [u8v, hkl]) (by simp)
        have hd : decide (b.length ≤ k) = false := by simp; omega
        clear hx hA
        go_wp2_with fail
        go_quiet (fail)
        go_wp2
        · rename_i ht
          have Ht := Lib.hid ht
          clear ht
          go_ret3
          exact ⟨resH_of (head_hit (Hm.out.trans (mis_hit hk4 Ht.out))), gr_none hg (gr_drewN _ _ _)⟩
        · rename_i ht
          have Ht := Lib.hid ht
          clear ht
          go_roundw
          case rel => exact ⟨k + 1, by omega, by go_num, Hm.out.trans (mis_next hk4 Ht.out), gr_none hg (gr_drewN _ _ _)⟩
          case measure => simp [intOf]; omega
      · have hd : decide (b.length ≤ k) = true := by simp; omega
        go_wp2_with fail
        go_quiet (fail)
        go_wp2
        go_ret3
        exact ⟨resH_of (head_hit (Hm.out.trans (mis_out (by omega) hk4))), gr_none hg (gr_drewN _ _ _)⟩
    · obtain rfl : k = 4 := by omega
      have hm0 : mis b magic 0 = none := Hm.out.trans rfl
      clear hx hA
      by_cases h12 : b.length < 12
      · have Hh := Lib.hid (head_short hm0 h12)
        go_wp2
        go_ret3
        exact ⟨resH_of Hh.out, hg⟩
      · have hh1 := @head_n b hm0 h12
        have hh2 := @head_m b hm0 h12
        have hh3 := @head_z b hm0 h12
        have hh4 := @head_ok b hm0 h12
        have hn : ∀ wx, w.grownBy wx none → Calls Tryd.prog 36 #[.slice A b.length c, .int .i64 4, .int .i64 4] wx fun e w' => e = .returned (.int .u64 (rdN ((b.drop 4).take 4))) ∧ w.grownBy w' none := fun wx hx =>
          (number_i 4 4 4 4 rfl rfl _ b wx (by omega) (by omega) hl (H0.out.ext hx)).mono fun _ _ h => ⟨h.1, gr_none hx h.2⟩
        have hm : ∀ wx, w.grownBy wx none → Calls Tryd.prog 36 #[.slice A b.length c, .int .i64 8, .int .i64 4] wx fun e w' => e = .returned (.int .u64 (rdN ((b.drop 8).take 4))) ∧ w.grownBy w' none := fun wx hx =>
          (number_i 4 8 4 8 rfl rfl _ b wx (by omega) (by omega) hl (H0.out.ext hx)).mono fun _ _ h => ⟨h.1, gr_none hx h.2⟩
        have hnl := rdN_take_lt (b.drop 4) 4
        have hml := rdN_take_lt (b.drop 8) 4
        generalize rdN ((b.drop 4).take 4) = N at *
        generalize rdN ((b.drop 8).take 4) = M at *
        have Hn := Lib.hid hn
        have Hm := Lib.hid hm
        clear hn hm
        by_cases h1 : 2147483647 < N
        · have Hh := Lib.hid (hh1 h1)
          clear hh1 hh2 hh3 hh4
          go_wp2_with (first | (go_at_call 36; with_reducible refine (Hn.out _ hg).mono ?_; rintro e w2 ⟨rfl, hg2⟩) | (go_at_call 36; with_reducible refine (Hm.out _ hg2).mono ?_; rintro e w3 ⟨rfl, hg3⟩))
          go_ret3
          exact ⟨resH_of Hh.out, hg3⟩
        by_cases h2 : 16777216 < M
        · have Hh := Lib.hid (hh2 h1 h2)
          clear hh1 hh2 hh3 hh4
          go_wp2_with (first | (go_at_call 36; with_reducible refine (Hn.out _ hg).mono ?_; rintro e w2 ⟨rfl, hg2⟩) | (go_at_call 36; with_reducible refine (Hm.out _ hg2).mono ?_; rintro e w3 ⟨rfl, hg3⟩))
          go_ret3
          exact ⟨resH_of Hh.out, hg3⟩
        by_cases h3 : N = 0
        · have hb : ((N : Int) == 0) = true := by rw [beq_iff_eq]; omega
          by_cases h4 : 0 < M
          · have Hh := Lib.hid (hh3 h1 h2 ⟨h3, h4⟩)
            clear hh1 hh2 hh3 hh4 h3
            go_wp2_with (first | (go_at_call 36; with_reducible refine (Hn.out _ hg).mono ?_; rintro e w2 ⟨rfl, hg2⟩) | (go_at_call 36; with_reducible refine (Hm.out _ hg2).mono ?_; rintro e w3 ⟨rfl, hg3⟩))
            go_ret3
            exact ⟨resH_of Hh.out, hg3⟩
          · have Hh := Lib.hid (hh4 h1 h2 (fun h => h4 h.2))
            clear hh1 hh2 hh3 hh4 h3
            go_wp2_with (first | (go_at_call 36; with_reducible refine (Hn.out _ hg).mono ?_; rintro e w2 ⟨rfl, hg2⟩) | (go_at_call 36; with_reducible refine (Hm.out _ hg2).mono ?_; rintro e w3 ⟨rfl, hg3⟩))
            go_ret3
            exact ⟨resH_of Hh.out, hg3⟩
        · have hb : ((N : Int) == 0) = false := by rw [beq_eq_false_iff_ne]; omega
          have Hh := Lib.hid (hh4 h1 h2 (fun h => h3 h.1))
          clear hh1 hh2 hh3 hh4 h3
          go_wp2_with (first | (go_at_call 36; with_reducible refine (Hn.out _ hg).mono ?_; rintro e w2 ⟨rfl, hg2⟩) | (go_at_call 36; with_reducible refine (Hm.out _ hg2).mono ?_; rintro e w3 ⟨rfl, hg3⟩))
          go_ret3
          exact ⟨resH_of Hh.out, hg3⟩
end Go.Proofs.YthckjpcknmmagaaDoor
