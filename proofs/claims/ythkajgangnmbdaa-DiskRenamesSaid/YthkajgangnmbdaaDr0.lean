/-
  DiskRenames: plain.
-/
import Derived.Test.YthkajgangnmbdaaNo
import Derived.Test.YthkajgangnmbdaaL6
import Derived.Test.YthkajgangnmbdaaNf
namespace Go.Proofs.Ythkajgangnmbdaa
open Go.RowKit
set_option maxRecDepth 100000

def fn : List UInt8 := [102, 114, 111, 109]
def tn : List UInt8 := [116, 111]
theorem fn_right : rightB fn = true := by decide
theorem tn_right : rightB tn = true := by decide
theorem fn_tn : ¬ fn = tn := by decide
/-- an idle disk without loose sectors. -/
structure Fs (S : Dk) (l : List Fi) : Prop where
  idle : Idle S
  fs : S.fs = l
  q : S.quota = 4096
  loose : ∀ s k, S.loose s k = false
theorem Fs.new : Fs (newD 4096) [] := ⟨⟨rfl, rfl⟩, rfl, rfl, fun _ _ => rfl⟩
section
variable {S : Dk} {l : List Fi} {n b : List UInt8}
theorem setF_last {l : List Fi} {n : List UInt8} {f : Fi} (hn : ∀ f ∈ l, f.name ≠ n) (hf : f.name = n) (g : Fi → Fi) : setF (l ++ [f]) n g = l ++ [g f] := by
  unfold setF
  rw [List.map_append]
  congr 1
  · conv => rhs; rw [← List.map_id l]
    exact List.map_congr_left fun x hx => by rw [if_neg (hn x hx)]; rfl
  · simp [hf]
theorem find_last {S : Dk} {l : List Fi} {n : List UInt8} {f : Fi} (h : S.fs = l ++ [f]) (hn : ∀ f ∈ l, f.name ≠ n) (hf : f.name = n) : S.find n = some f := by
  unfold Dk.find
  rw [h, List.find?_append, List.find?_eq_none.2 fun x hx => by simpa using hn x hx]
  simp [hf]
theorem Fs.find_no (h : Fs S l) (hn : ∀ f ∈ l, f.name ≠ n) : S.find n = none := by
  unfold Dk.find
  rw [h.fs]
  exact List.find?_eq_none.2 fun x hx => by simpa using hn x hx
theorem Fs.laid (h : Fs S l) (hr : rightB n = true) (hn : ∀ f ∈ l, f.name ≠ n) (hb : b.length ≤ 4096) (hu : S.used ≤ 1000) :
    (S.create n).2 = 0 ∧ ((S.create n).1.write n (0 : Nat) b).2 = 0 ∧ (((S.create n).1.write n (0 : Nat) b).1.sync n).2 = 0 ∧ Fs (((S.create n).1.write n (0 : Nat) b).1.sync n).1 (l ++ [⟨n, b, b⟩]) := by
  have e1 := create_idle h.idle hr (h.find_no hn)
  rw [e1]
  obtain ⟨S1, hS1⟩ : ∃ S1, S1 = ({ S with fs := S.fs ++ [⟨n, [], []⟩] } : Dk) := ⟨_, rfl⟩
  rw [← hS1]
  have i1 : Idle S1 := by rw [hS1]; exact ⟨h.idle.1, h.idle.2⟩
  have f1 : S1.fs = l ++ [⟨n, [], []⟩] := by rw [hS1]; show S.fs ++ _ = _; rw [h.fs]
  have u1 : S1.used = S.used := by
    unfold Dk.used
    rw [f1, h.fs]
    simp [sectors]
  have q1 : S1.quota = 4096 := by rw [hS1]; exact h.q
  have l1 : ∀ s k, S1.loose s k = false := by rw [hS1]; exact h.loose
  have d1 := find_last f1 hn rfl
  clear hS1 e1
  have e2 := write_idle (S := S1) (n := n) (p := 0) (b := b) i1 hr d1 (by simp) (by omega) (by
    unfold moreS
    rw [u1, q1]
    simp only [List.length_nil, Nat.zero_add, Nat.max_eq_right (Nat.zero_le _)]
    unfold sectors
    omega)
  dsimp only
  rw [e2]
  have i2 : Idle (S1.wrote n 0 b) := ⟨i1.1, i1.2⟩
  have f2 : (S1.wrote n 0 b).fs = l ++ [⟨n, b, []⟩] := by
    show setF S1.fs n _ = _
    rw [f1, setF_last hn rfl]
    simp [overZ]
  have d2 := find_last f2 hn rfl
  have e3 := sync_idle i2 hr d2
  dsimp only
  rw [e3]
  refine ⟨rfl, rfl, rfl, ⟨i2.1, i2.2⟩, ?_, q1, fun s k => ?_⟩
  · show setF (S1.wrote n 0 b).fs n _ = _
    rw [f2, setF_last hn rfl]
  · show (((s == n && hits 0 b.length k) || S1.loose s k) && !(s == n)) = false
    rw [l1]
    cases (s == n) <;> simp
theorem Fs.arm (h : Fs S l) (k : Nat) : S.arm k = ({ S with armed := k }, 0) := by
  unfold Dk.arm; rw [if_neg (by omega), if_neg (by rw [h.idle.2]; simp), Int.toNat_natCast]
/-- a disk whose power is off, all of whose files last. -/
structure Ends (T : Dk) (l : List Fi) : Prop where
  dead : T.dead = true
  fs : T.fs = l
  same : ∀ f ∈ l, f.lasts = f.now
  nodup : (l.map Fi.name).Nodup
  loose : ∀ s k, T.loose s k = false
  nl : T.nl ≤ 100000
  few : l.length ≤ 2
theorem Ends.looseIn {T : Dk} (h : Ends T l) : LooseIn T := fun s k hl => by rw [h.loose] at hl; cases hl
theorem Ends.lit {T : Dk} (h : Ends T l) : (T.lit T.lastsOf).fs = l := by
  show T.fs.map _ = l
  rw [h.fs]
  conv => rhs; rw [← List.map_id l]
  refine List.map_congr_left fun x hx => ?_
  have : T.find x.name = some x := by unfold Dk.find; rw [h.fs]; exact find_mem h.nodup hx
  rw [lastsOf_some this, h.same x hx]
  obtain ⟨a, b, c⟩ := x
  have := h.same _ hx
  simp at this
  simp [this]
theorem Fs.off (h : Fs S l) (hs : ∀ f ∈ l, f.lasts = f.now) (hN : (l.map Fi.name).Nodup) (hnl : S.nl ≤ 100000) (hl : l.length ≤ 2) : Ends S.off l := ⟨rfl, h.fs, hs, hN, h.loose, hnl, hl⟩
theorem off_sync (S : Dk) (n : List UInt8) : S.off.sync n = (S.off, 6) := by
  have e : S.off.begin = S.off := by unfold Dk.begin Dk.off; simp
  unfold Dk.sync
  rw [e, if_pos (show S.off.dead = true from rfl)]
theorem arm1_begin (S : Dk) : ({ S with armed := 1 } : Dk).begin = S.off := by unfold Dk.begin Dk.off; simp
theorem arm2_begin (S : Dk) : ({ S with armed := 2 } : Dk).begin = { S with armed := 1 } := by unfold Dk.begin; simp
theorem ren_sync (S : Dk) (f : Fi) (n m : List UInt8) : (Dk.renamed { S with armed := 1 } f n).sync m = ((Dk.renamed S f n).off, 6) := by
  have e : (Dk.renamed { S with armed := 1 } f n).begin = (Dk.renamed S f n).off := by unfold Dk.begin Dk.off Dk.renamed Dk.took; simp
  unfold Dk.sync
  rw [e, if_pos (show (Dk.renamed S f n).off.dead = true from rfl)]
def fsT (there : Bool) (a b : List UInt8) : List Fi := if there then [⟨fn, a, a⟩, ⟨tn, b, b⟩] else [⟨fn, a, a⟩]
theorem fsT_names (there : Bool) (a b : List UInt8) : ((fsT there a b).map Fi.name).Nodup := by
  cases there
  · show [fn].Nodup; decide
  · show [fn, tn].Nodup; decide
theorem fsT_same (there : Bool) (a b : List UInt8) : ∀ f ∈ fsT there a b, f.lasts = f.now := by
  intro f hf
  cases there
  · rw [List.mem_singleton.1 hf]
  · rcases List.mem_cons.1 hf with rfl | h
    · rfl
    · rw [List.mem_singleton.1 h]
theorem Fs.ren_ends {there : Bool} {a b : List UInt8} (h : Fs S (fsT there a b)) (hnl : S.nl ≤ 100000) : Ends (Dk.renamed S ⟨fn, a, a⟩ tn).off [⟨tn, a, a⟩] := by
  refine ⟨rfl, ?_, fun f hf => by rw [List.mem_singleton.1 hf], (by show [tn].Nodup; decide), fun s k => ?_, hnl, by simp⟩
  · show butF (butF S.fs fn) tn ++ _ = _
    rw [h.fs]
    cases there <;> rfl
  · show (S.loose s k && !(s == tn)) = false
    rw [h.loose]; rfl
theorem Fs.find_from {there : Bool} {a b : List UInt8} (h : Fs S (fsT there a b)) : S.find fn = some ⟨fn, a, a⟩ := by
  unfold Dk.find; rw [h.fs]; cases there <;> rfl
/-- the files, told. -/
structure Told (w : World) (l : List Fl) (fs : List Fi) : Prop where
  names : (l.map Fl.n).Perm (fs.map Fi.name)
  rd : ∀ x ∈ l, ∃ f ∈ fs, f.name = x.n ∧ RdB w x.s f.now
theorem Told.no {w : World} {l : List Fl} {fs : List Fi} (h : Told w l fs) {n : List UInt8} (hn : ∀ f ∈ fs, f.name ≠ n) : l.find? (fun x => x.n == n) = none := List.find?_eq_none.2 fun x hx e => by
  have e2 : x.n = n := by simpa using e
  obtain ⟨f, hf, h1, _⟩ := h.rd x hx
  exact hn f hf (by rw [h1, e2])
theorem Told.is {w : World} {l : List Fl} {fs : List Fi} (h : Told w l fs) (hN : (fs.map Fi.name).Nodup) {f : Fi} (hf : f ∈ fs) : ∃ x, l.find? (fun x => x.n == f.name) = some x ∧ RdB w x.s f.now := by
  have : f.name ∈ l.map Fl.n := h.names.mem_iff.2 (List.mem_map.2 ⟨f, hf, rfl⟩)
  obtain ⟨y, hy, hye⟩ := List.mem_map.1 this
  cases e : l.find? (fun x => x.n == f.name) with
  | none => exact absurd (by simpa using hye) (List.find?_eq_none.1 e y hy)
  | some x =>
    refine ⟨x, rfl, ?_⟩
    obtain ⟨f', hf', h1, h2⟩ := h.rd x (List.mem_of_find?_eq_some e)
    have e2 : x.n = f.name := by simpa using List.find?_some e
    have : f' = f := by
      have k1 := find_mem hN hf
      have k2 := find_mem hN hf'
      rw [h1, e2, k1] at k2
      exact (Option.some.inj k2).symm
    rw [← this]; exact h2
theorem Told.len {w : World} {l : List Fl} {fs : List Fi} (h : Told w l fs) : l.length = fs.length := by have := h.names.length_eq; simpa using this
end
end Go.Proofs.Ythkajgangnmbdaa
