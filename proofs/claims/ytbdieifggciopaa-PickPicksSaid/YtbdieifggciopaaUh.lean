/-
  slices.Sort at []uint32: a list of the call's own is sorted.
-/
import Derived.Test.YtbdieifggciopaaUg
namespace Go.Proofs.Ytbdieifggciopaa
open Go.RowKit
set_option maxRecDepth 100000
set_option maxHeartbeats 400000

def encL (l : List UInt32) : List Value := l.map fun x => .int .u32 x.toNat
theorem encL_len (l : List UInt32) : (encL l).length = l.length := by simp [encL]
abbrev RdU (w : World) (v : Value) (l : List UInt32) : Prop := Rd w 1 v l.length (encL l)
abbrev OwnU (w : World) (B : Nat) (v : Value) (l : List UInt32) : Prop := Own w B 1 v l.length (encL l)
theorem own_at32 {w : World} {B g off c : Nat} {l : List UInt32} (h : OwnU w B (.slice (some ⟨g, off, none⟩) l.length c) l) (h0 : 0 < l.length) : At32 w g off l.length l.toArray w := by
  obtain ⟨hl, A', c', g', off', e, hn, hc, hA0, hA, hb, hx, hf⟩ := h
  cases e
  have := hA (by omega)
  cases this
  have hH : Go.Sort.Holds encU w g off l.toArray := fun j hj => by
    have hj' : j < l.length := by simpa using hj
    refine ⟨?_, (hf j (by omega)).2⟩
    rw [hx j (by omega), getElem!_pos l.toArray j hj]
    simp [encL, hj']
  refine At32.refl hH ?_ (by simp)
  have := (hf 0 (by omega)).1
  obtain ⟨u, hu⟩ := Option.isSome_iff_exists.1 this
  exact World.block_lt_of_cell? w _ hu
theorem At32.own {w w' : World} {B g off c : Nat} {l : List UInt32} {d : Array UInt32} (h : OwnU w B (.slice (some ⟨g, off, none⟩) l.length c) l) (h0 : 0 < l.length) (hat : At32 w g off l.length d w') :
    Own w' B 1 (.slice (some ⟨g, off, none⟩) l.length c) l.length (encL d.toList) ∧ w.grownBy w' (some g) := by
  have hg := (own_at32 h h0).2.2.1
  obtain ⟨hl, A', c', g', off', e, hn, hc, hA0, hA, hb, hx, hf⟩ := h
  cases e
  have := hA (by omega)
  cases this
  obtain ⟨h1, h2, h3, m, os, h4⟩ := hat
  refine ⟨⟨by rw [encL_len]; simp [h1], _, c, g, off, rfl, hn, hc, hA0, hA, hb, fun j hj => ?_, fun j hj => ?_⟩, ?_⟩
  · rw [(h2 j (by omega)).1, getElem!_pos d j (by omega)]
    have : j < d.size := by omega
    simp [encL, this]
  · have hb2 : g < (Go.Sort.putRow encU (Go.Sort.ahead w m) g off d).heap.size := by simpa using hg
    refine ⟨?_, ?_⟩
    · by_cases hjn : j < l.length
      · rw [(h2 j (by omega)).1]; rfl
      · rw [h4, Go.Sort.cell?_grow _ _ _ hb2, Go.Sort.cell?_putRow_other _ _ _ _ _ _ (.inr (.inr (by show off + d.size ≤ off + j; omega)))]
        exact (hf j hj).1
    · rw [h4, Go.Sort.frozen?_grow _ _ _ hb2, Go.Sort.frozen?_putRow]
      exact (hf j hj).2
  · rw [h4]
    unfold Go.Sort.grow Go.Sort.putRow Go.Sort.mapBlock Go.Sort.ahead
    refine ⟨rfl, rfl, rfl, by simp, fun i hi hne => ?_⟩
    show (w.heap.modify g _ ++ os)[i]? = _
    rw [Array.getElem?_append_left (by simpa using hi), Array.getElem?_modify, if_neg (fun e => hne (by rw [e]))]
def RisU (l : List UInt32) : Prop := l.Pairwise fun a b => a.toNat ≤ b.toNat
theorem sorted_list {l : List UInt32} {d : Array UInt32} (h : Go.Sort.PermIn 0 l.length l.toArray d) (hs : Go.Sort.SortedIn ltU 0 l.length d) : d.toList.Perm l ∧ RisU d.toList := by
  obtain ⟨h1, _, h3⟩ := h
  have hsz : d.size = l.length := by simpa using h1
  have e1 : d.extract 0 l.length = d := by rw [← hsz]; simp
  have e2 : l.toArray.extract 0 l.length = l.toArray := by simp
  rw [e1, e2] at h3
  refine ⟨h3, List.pairwise_iff_getElem.2 fun i j hi hj hij => ?_⟩
  simp only [Array.length_toList] at hi hj
  have := hs i j (Nat.zero_le _) hij (by omega)
  rw [getElem!_pos d j hj, getElem!_pos d i hi] at this
  simp only [ltU, decide_eq_false_iff_not] at this
  simp only [Array.getElem_toList]
  omega
theorem insertionN (A : Option Addr) (cap : Nat) (w : World) : Calls Try.prog 31 #[.slice A 0 cap, .int .i64 0, .int .i64 0] w fun e w' => e = .returned (.tuple #[]) ∧ w = w' := by
  go_enter Try.func31, Try.ntmps31
  go_wp2
  go_loopw [6] (fun vi wr => vi = .int .i64 1 ∧ wr = w) (fun _ _ => 0)
  case atStart => exact ⟨rfl, rfl⟩
  case round =>
    obtain ⟨rfl, rfl⟩ := hrel
    go_wp2
    go_end0
    exact ⟨rfl, rfl⟩
theorem pdqN (A : Option Addr) (cap lim : Nat) (w : World) : Calls Try.prog 27 #[.slice A 0 cap, .int .i64 0, .int .i64 0, .int .i64 lim] w fun e w' => e = .returned (.tuple #[]) ∧ w = w' := by
  have HI := Lib.hid (insertionN A cap w)
  go_enter Try.func27, Try.ntmps27
  go_wp2
  go_loopw [1, 2, 3, 8, 9] (fun s1 s2 _ _ _ wr => s1 = .int .i64 0 ∧ s2 = .int .i64 0 ∧ wr = w) (fun _ _ _ _ _ _ => 0)
  case atStart => exact ⟨rfl, rfl, rfl⟩
  case round =>
    obtain ⟨rfl, rfl, rfl⟩ := hrel
    go_wp2_with fail
    refine HI.out.mono ?_
    rintro e wz ⟨rfl, rfl⟩
    go_wp2
    (try simp only [Exit.inBlock, Exit.then])
    refine bodyPost_ret (results_none rfl _ _ _) rfl ?_
    exact ⟨rfl, rfl⟩
theorem sort_any (v : Value) (B : Nat) (l : List UInt32) (w : World) (h : OwnU w B v l) (hn : l.length ≤ 1000000) :
    Calls Try.prog 20 #[v] w fun e w' => e = .returned (.tuple #[]) ∧ (∃ l', l'.Perm l ∧ RisU l' ∧ OwnU w' B v l') ∧ w.grownBy w' v.ownBlock := by
  obtain ⟨A, c, rfl⟩ : ∃ A c, v = .slice A l.length c := by obtain ⟨_, A, c, _, _, e, _⟩ := h; exact ⟨A, c, e⟩
  have HLE := Lib.hid (lenU l.length (by omega))
  by_cases h0 : l.length = 0
  · have hl : l = [] := List.eq_nil_of_length_eq_zero h0
    subst hl
    have HP := Lib.hid (pdqN A c 0 w)
    have HO := Lib.hid h
    clear h h0 hn
    go_enter Try.func20, Try.ntmps20
    go_wp2_with fail
    refine (HLE.out _).mono ?_
    rintro e wz ⟨rfl, rfl⟩
    go_wp2_with fail
    refine HP.out.mono ?_
    rintro e wz ⟨rfl, rfl⟩
    go_wp2
    go_end0
    exact ⟨rfl, ⟨[], List.Perm.refl _, List.Pairwise.nil, HO.out⟩, gr_refl _ _⟩
  · obtain ⟨g, off, hA⟩ : ∃ g off, A = some ⟨g, off, none⟩ := by
      obtain ⟨_, _, _, g, off, e, hn, _, _, hA, _⟩ := h
      cases e
      exact ⟨g, off, hA (by omega)⟩
    subst hA
    have h0' : 0 < l.length := by omega
    have hat := own_at32 h h0'
    have hk := bitsLen_le63 (n := l.length) (by omega)
    have HP := Lib.hid (pdqU (l.length + 1) g off c 0 l.length (Go.Sort.bitsLen l.length) l.length l.toArray w (by omega) hat (by omega) (by omega) (by omega) (by omega) (.inl rfl))
    have HS := Lib.hid (Go.Sort.pdq_sorts ltU swo_ltU l.toArray 0 l.length (Go.Sort.bitsLen l.length) true true (by omega) (by simp) (.inl rfl))
    have HO := Lib.hid h
    generalize Go.Sort.bitsLen l.length = k at *
    have hl2 : l.length < 4611686018427387904 := by omega
    clear h hat
    go_enter Try.func20, Try.ntmps20
    go_wp2_with fail
    refine (HLE.out _).mono ?_
    rintro e wz ⟨rfl, rfl⟩
    go_wp2_with fail
    refine HP.out.mono ?_
    rintro e wz ⟨rfl, hz⟩
    have HZ := Lib.hid hz
    clear hz
    go_wp2
    go_end0
    obtain ⟨p1, p2⟩ := sorted_list HS.out.1 HS.out.2
    obtain ⟨o1, o2⟩ := HZ.out.own HO.out h0'
    refine ⟨rfl, ⟨_, p1, p2, ?_⟩, o2⟩
    show Own _ _ _ _ _ _
    rw [p1.length_eq]
    exact o1
end Go.Proofs.Ytbdieifggciopaa
