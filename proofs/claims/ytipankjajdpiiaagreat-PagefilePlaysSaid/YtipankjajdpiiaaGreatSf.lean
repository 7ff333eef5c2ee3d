/-
  Rename and Names, seen from an older world; fileOf's words.
-/
import Derived.Test.YtipankjajdpiiaaGreatNn
import Derived.Test.YtipankjajdpiiaaGreatOp
import Derived.Test.YtipankjajdpiiaaGreatRg
namespace Go.Proofs.YtipankjajdpiiaaGreat
open Go.RowKit
set_option maxRecDepth 100000
section
variable {w0 w : World} {d : Nat} {o : Own1} {S : Dk}
end
end Go.Proofs.YtipankjajdpiiaaGreat

/- Files in memory; fileOf. -/
namespace Go.Proofs.YtipankjajdpiiaaGreat
open Go.RowKit
set_option maxRecDepth 100000
set_option maxHeartbeats 400000

structure Fl where
  n : List UInt8
  b : List UInt8
  s : Value
def Fl.enc (x : Fl) : List Value := [.string ⟨x.n.toArray⟩, x.s]
theorem fl2 (x : Fl) : x.enc.length = 2 := rfl
def RdF (w : World) (v : Value) (l : List Fl) : Prop := RdG Fl.enc 2 w v l
def FoundIs (l : List Fl) (n : List UInt8) (e : Ending) : Prop := match l.find? fun x => x.n == n with
  | none => e = .returned (.tuple #[.slice none 0 0, .bool false])
  | some x => e = .returned (.tuple #[x.s, .bool true])
theorem found_some {l : List Fl} {n : List UInt8} {k : Nat} (hk : k < l.length) (h : ∀ x ∈ l.take k, ¬ x.n = n) (e : l[k].n = n) : l.find? (fun x => x.n == n) = some l[k] := by
  have e1 : l = l.take k ++ l[k] :: l.drop (k + 1) := by rw [← List.drop_eq_getElem_cons hk, List.take_append_drop]
  have h0 : (l.take k).find? (fun x => x.n == n) = none := List.find?_eq_none.2 fun x hx => by simpa using h x hx
  have h1 : (l.take k ++ l[k] :: l.drop (k + 1)).find? (fun x => x.n == n) = some l[k] := by
    have h2 : (l[k].n == n) = true := by rw [e]; exact beq_self_eq_true n
    rw [List.find?_append, h0, List.find?_cons, h2]; rfl
  rw [← e1] at h1
  exact h1
end Go.Proofs.YtipankjajdpiiaaGreat

/- DiskRenames: plain. -/
namespace Go.Proofs.YtipankjajdpiiaaGreat
open Go.RowKit
set_option maxRecDepth 100000

def fn : List UInt8 := [102, 114, 111, 109]
def tn : List UInt8 := [116, 111]
theorem fn_right : rightB fn = true := by decide
theorem tn_right : rightB tn = true := by decide
theorem fn_tn : ¬ fn = tn := by decide
/-- an idle disk without loose sectors. -/
structure Fs (S : Dk) (l : List Fi) : Prop where
  idle : Idle S
  fs : S.fs = l
  q : S.quota = 4096
  loose : ∀ s k, S.loose s k = false
theorem Fs.new : Fs (newD 4096) [] := ⟨⟨rfl, rfl⟩, rfl, rfl, fun _ _ => rfl⟩
section
variable {S : Dk} {l : List Fi} {n b : List UInt8}
theorem setF_last {l : List Fi} {n : List UInt8} {f : Fi} (hn : ∀ f ∈ l, f.name ≠ n) (hf : f.name = n) (g : Fi → Fi) : setF (l ++ [f]) n g = l ++ [g f] := by
  unfold setF
  rw [List.map_append]
  congr 1
  · conv => rhs; rw [← List.map_id l]
    exact List.map_congr_left fun x hx => by rw [if_neg (hn x hx)]; rfl
  · simp [hf]
theorem find_last {S : Dk} {l : List Fi} {n : List UInt8} {f : Fi} (h : S.fs = l ++ [f]) (hn : ∀ f ∈ l, f.name ≠ n) (hf : f.name = n) : S.find n = some f := by
  unfold Dk.find
  rw [h, List.find?_append, List.find?_eq_none.2 fun x hx => by simpa using hn x hx]
  simp [hf]
theorem Fs.find_no (h : Fs S l) (hn : ∀ f ∈ l, f.name ≠ n) : S.find n = none := by
  unfold Dk.find
  rw [h.fs]
  exact List.find?_eq_none.2 fun x hx => by simpa using hn x hx
theorem Fs.laid (h : Fs S l) (hr : rightB n = true) (hn : ∀ f ∈ l, f.name ≠ n) (hb : b.length ≤ 4096) (hu : S.used ≤ 1000) :
    (S.create n).2 = 0 ∧ ((S.create n).1.write n (0 : Nat) b).2 = 0 ∧ (((S.create n).1.write n (0 : Nat) b).1.sync n).2 = 0 ∧ Fs (((S.create n).1.write n (0 : Nat) b).1.sync n).1 (l ++ [⟨n, b, b⟩]) := by
  have e1 := create_idle h.idle hr (h.find_no hn)
  rw [e1]
  obtain ⟨S1, hS1⟩ : ∃ S1, S1 = ({ S with fs := S.fs ++ [⟨n, [], []⟩] } : Dk) := ⟨_, rfl⟩
  rw [← hS1]
  have i1 : Idle S1 := by rw [hS1]; exact ⟨h.idle.1, h.idle.2⟩
  have f1 : S1.fs = l ++ [⟨n, [], []⟩] := by rw [hS1]; show S.fs ++ _ = _; rw [h.fs]
  have u1 : S1.used = S.used := by
    unfold Dk.used
    rw [f1, h.fs]
    simp [sectors]
  have q1 : S1.quota = 4096 := by rw [hS1]; exact h.q
  have l1 : ∀ s k, S1.loose s k = false := by rw [hS1]; exact h.loose
  have d1 := find_last f1 hn rfl
  clear hS1 e1
  have e2 := write_idle (S := S1) (n := n) (p := 0) (b := b) i1 hr d1 (by simp) (by omega) (by
    unfold moreS
    rw [u1, q1]
    simp only [List.length_nil, Nat.zero_add, Nat.max_eq_right (Nat.zero_le _)]
    unfold sectors
    omega)
  dsimp only
  rw [e2]
  have i2 : Idle (S1.wrote n 0 b) := ⟨i1.1, i1.2⟩
  have f2 : (S1.wrote n 0 b).fs = l ++ [⟨n, b, []⟩] := by
    show setF S1.fs n _ = _
    rw [f1, setF_last hn rfl]
    simp [overZ]
  have d2 := find_last f2 hn rfl
  have e3 := sync_idle i2 hr d2
  dsimp only
  rw [e3]
  refine ⟨rfl, rfl, rfl, ⟨i2.1, i2.2⟩, ?_, q1, fun s k => ?_⟩
  · show setF (S1.wrote n 0 b).fs n _ = _
    rw [f2, setF_last hn rfl]
  · show (((s == n && hits 0 b.length k) || S1.loose s k) && !(s == n)) = false
    rw [l1]
    cases (s == n) <;> simp
theorem Fs.arm (h : Fs S l) (k : Nat) : S.arm k = ({ S with armed := k }, 0) := by
  unfold Dk.arm; rw [if_neg (by omega), if_neg (by rw [h.idle.2]; simp), Int.toNat_natCast]
/-- a disk whose power is off, all of whose files last. -/
structure Ends (T : Dk) (l : List Fi) : Prop where
  dead : T.dead = true
  fs : T.fs = l
  same : ∀ f ∈ l, f.lasts = f.now
  nodup : (l.map Fi.name).Nodup
  loose : ∀ s k, T.loose s k = false
  nl : T.nl ≤ 100000
  few : l.length ≤ 2
theorem Ends.looseIn {T : Dk} (h : Ends T l) : LooseIn T := fun s k hl => by rw [h.loose] at hl; cases hl
theorem Ends.lit {T : Dk} (h : Ends T l) : (T.lit T.lastsOf).fs = l := by
  show T.fs.map _ = l
  rw [h.fs]
  conv => rhs; rw [← List.map_id l]
  refine List.map_congr_left fun x hx => ?_
  have : T.find x.name = some x := by unfold Dk.find; rw [h.fs]; exact find_mem h.nodup hx
  rw [lastsOf_some this, h.same x hx]
  obtain ⟨a, b, c⟩ := x
  have := h.same _ hx
  simp at this
  simp [this]
theorem Fs.off (h : Fs S l) (hs : ∀ f ∈ l, f.lasts = f.now) (hN : (l.map Fi.name).Nodup) (hnl : S.nl ≤ 100000) (hl : l.length ≤ 2) : Ends S.off l := ⟨rfl, h.fs, hs, hN, h.loose, hnl, hl⟩
theorem off_sync (S : Dk) (n : List UInt8) : S.off.sync n = (S.off, 6) := by
  have e : S.off.begin = S.off := by unfold Dk.begin Dk.off; simp
  unfold Dk.sync
  rw [e, if_pos (show S.off.dead = true from rfl)]
theorem arm1_begin (S : Dk) : ({ S with armed := 1 } : Dk).begin = S.off := by unfold Dk.begin Dk.off; simp
theorem arm2_begin (S : Dk) : ({ S with armed := 2 } : Dk).begin = { S with armed := 1 } := by unfold Dk.begin; simp
theorem ren_sync (S : Dk) (f : Fi) (n m : List UInt8) : (Dk.renamed { S with armed := 1 } f n).sync m = ((Dk.renamed S f n).off, 6) := by
  have e : (Dk.renamed { S with armed := 1 } f n).begin = (Dk.renamed S f n).off := by unfold Dk.begin Dk.off Dk.renamed Dk.took; simp
  unfold Dk.sync
  rw [e, if_pos (show (Dk.renamed S f n).off.dead = true from rfl)]
def fsT (there : Bool) (a b : List UInt8) : List Fi := if there then [⟨fn, a, a⟩, ⟨tn, b, b⟩] else [⟨fn, a, a⟩]
theorem fsT_names (there : Bool) (a b : List UInt8) : ((fsT there a b).map Fi.name).Nodup := by
  cases there
  · show [fn].Nodup; decide
  · show [fn, tn].Nodup; decide
theorem fsT_same (there : Bool) (a b : List UInt8) : ∀ f ∈ fsT there a b, f.lasts = f.now := by
  intro f hf
  cases there
  · rw [List.mem_singleton.1 hf]
  · rcases List.mem_cons.1 hf with rfl | h
    · rfl
    · rw [List.mem_singleton.1 h]
theorem Fs.ren_ends {there : Bool} {a b : List UInt8} (h : Fs S (fsT there a b)) (hnl : S.nl ≤ 100000) : Ends (Dk.renamed S ⟨fn, a, a⟩ tn).off [⟨tn, a, a⟩] := by
  refine ⟨rfl, ?_, fun f hf => by rw [List.mem_singleton.1 hf], (by show [tn].Nodup; decide), fun s k => ?_, hnl, by simp⟩
  · show butF (butF S.fs fn) tn ++ _ = _
    rw [h.fs]
    cases there <;> rfl
  · show (S.loose s k && !(s == tn)) = false
    rw [h.loose]; rfl
theorem Fs.find_from {there : Bool} {a b : List UInt8} (h : Fs S (fsT there a b)) : S.find fn = some ⟨fn, a, a⟩ := by
  unfold Dk.find; rw [h.fs]; cases there <;> rfl
/-- the files, told. -/
structure Told (w : World) (l : List Fl) (fs : List Fi) : Prop where
  names : (l.map Fl.n).Perm (fs.map Fi.name)
  rd : ∀ x ∈ l, ∃ f ∈ fs, f.name = x.n ∧ RdB w x.s f.now
theorem Told.no {w : World} {l : List Fl} {fs : List Fi} (h : Told w l fs) {n : List UInt8} (hn : ∀ f ∈ fs, f.name ≠ n) : l.find? (fun x => x.n == n) = none := List.find?_eq_none.2 fun x hx e => by
  have e2 : x.n = n := by simpa using e
  obtain ⟨f, hf, h1, _⟩ := h.rd x hx
  exact hn f hf (by rw [h1, e2])
theorem Told.is {w : World} {l : List Fl} {fs : List Fi} (h : Told w l fs) (hN : (fs.map Fi.name).Nodup) {f : Fi} (hf : f ∈ fs) : ∃ x, l.find? (fun x => x.n == f.name) = some x ∧ RdB w x.s f.now := by
  have : f.name ∈ l.map Fl.n := h.names.mem_iff.2 (List.mem_map.2 ⟨f, hf, rfl⟩)
  obtain ⟨y, hy, hye⟩ := List.mem_map.1 this
  cases e : l.find? (fun x => x.n == f.name) with
  | none => exact absurd (by simpa using hye) (List.find?_eq_none.1 e y hy)
  | some x =>
    refine ⟨x, rfl, ?_⟩
    obtain ⟨f', hf', h1, h2⟩ := h.rd x (List.mem_of_find?_eq_some e)
    have e2 : x.n = f.name := by simpa using List.find?_some e
    have : f' = f := by
      have k1 := find_mem hN hf
      have k2 := find_mem hN hf'
      rw [h1, e2, k1] at k2
      exact (Option.some.inj k2).symm
    rw [← this]; exact h2
theorem Told.len {w : World} {l : List Fl} {fs : List Fi} (h : Told w l fs) : l.length = fs.length := by have := h.names.length_eq; simpa using this
end
end Go.Proofs.YtipankjajdpiiaaGreat

/- disk.Files. -/
namespace Go.Proofs.YtipankjajdpiiaaGreat
open Go.RowKit
set_option maxRecDepth 100000
set_option maxHeartbeats 400000

theorem Tryz.infoFl : (Tryz.prog.info? 91).map (fun i => (i.zero, i.size, i.bytes)) = some (some (.agg #[.string ⟨#[]⟩, .slice none 0 0]), 2, 40) := by kernel_rfl
/-- a slice's block, if it has one, is there. -/
def Lies (w : World) (v : Value) : Prop := ∀ q, v.ownBlock = some q → q < w.heap.size
theorem Lies.mono {w w' : World} {v : Value} (h : Lies w v) (hz : w.heap.size ≤ w'.heap.size) : Lies w' v := fun q e => Nat.lt_of_lt_of_le (h q e) hz
theorem Own.lies {w : World} {B s n : Nat} {v : Value} {xs : List Value} (h : Own w B s v n xs) (h0 : 0 < n) (hs : 0 < s) : Lies w v := by
  obtain ⟨_, A, c, g, off, rfl, hn, hc, _, hA, _, hx, hf⟩ := h
  intro k hk
  obtain rfl := hA (by omega)
  cases hk
  have hcs : 0 < c * s := Nat.mul_pos (by omega) hs
  obtain ⟨u, hu⟩ := Option.isSome_iff_exists.1 (hf 0 hcs).1
  exact World.block_lt_of_cell? w _ hu
/-- a file that was told, beside the slice of all. -/
def El (w : World) (v : Value) (x : Fl) : Prop := RdB w x.s x.b ∧ (0 < x.b.length → ∀ q, x.s.ownBlock = some q → q < w.heap.size ∧ v.ownBlock ≠ some q)
theorem El.step {w w' : World} {v v' : Value} {x : Fl} (h : El w v x) (hg : w.grownBy w' v.ownBlock) (hn : v'.ownBlock = v.ownBlock ∨ ∃ k, v'.ownBlock = some k ∧ w.heap.size ≤ k) : El w' v' x := by
  obtain ⟨h1, h2⟩ := h
  refine ⟨?_, fun h0 q hq => ?_⟩
  · rcases Nat.eq_zero_or_pos x.b.length with h0 | h0
    · obtain ⟨hl, A, c, g, off, e, hn, hc, hA0, hA, hx⟩ := h1
      exact ⟨hl, A, c, g, off, e, hn, hc, hA0, hA, fun j hj => by omega⟩
    · exact Rd.gr h1 hg fun k e e2 => (h2 h0 k e2).2 e
  · obtain ⟨k1, k2⟩ := h2 h0 q hq
    refine ⟨Nat.lt_of_lt_of_le k1 hg.size, ?_⟩
    rcases hn with e | ⟨k, e, hk⟩ <;> rw [e]
    · exact k2
    · intro e2; cases e2; omega
def OwnF (w : World) (B : Nat) (v : Value) (l : List Fl) : Prop := OwnG Fl.enc 2 w B v l ∧ Lies w v ∧ ∀ x ∈ l, El w v x
theorem OwnF.nil (w : World) (B : Nat) : OwnF w B (.slice none 0 0) [] := ⟨OwnG.nil _ _ _ _, fun q e => (by cases e), fun x hx => (by cases hx)⟩
theorem OwnF.ext {w w' : World} {B : Nat} {v : Value} {l : List Fl} (h : OwnF w B v l) (hg : w.grownBy w' none) : OwnF w' B v l :=
  ⟨OwnG.ext h.1 hg, h.2.1.mono hg.size, fun x hx => ⟨Rd.ext (h.2.2 x hx).1 hg, fun h0 q e => ⟨Nat.lt_of_lt_of_le ((h.2.2 x hx).2 h0 q e).1 hg.size, ((h.2.2 x hx).2 h0 q e).2⟩⟩⟩
theorem OwnF.mono {w : World} {B B' : Nat} {v : Value} {l : List Fl} (h : OwnF w B v l) (hB : B' ≤ B) : OwnF w B' v l := ⟨OwnG.mono h.1 hB, h.2⟩
theorem OwnF.form {w : World} {B : Nat} {v : Value} {l : List Fl} (h : OwnF w B v l) : ∃ A c, v = .slice A l.length c := RdG.form (OwnG.rd h.1)
theorem OwnF.app {w w' : World} {B : Nat} {v v' : Value} {l : List Fl} {x : Fl} (h : OwnF w B v l) (h0 : OwnG Fl.enc 2 w' B v' (l ++ [x])) (hg : w.grownBy w' v.ownBlock) (hn : v'.ownBlock = v.ownBlock ∨ ∃ k, v'.ownBlock = some k ∧ w.heap.size ≤ k) (hx : El w v x) : OwnF w' B v' (l ++ [x]) := by
  refine ⟨h0, Own.lies h0 (by simp) (by omega), fun y hy => ?_⟩
  rcases List.mem_append.1 hy with hy | hy
  · exact (h.2.2 y hy).step hg hn
  · rw [List.mem_singleton.1 hy]; exact hx.step hg hn
/-- append(v, f). -/
theorem wp_app1F {ops : Array Oper} {rest : List Oper} {o : Oper} {a : Act} {Q : Exit → Act → World → Prop} {w : World} (r : Fl) (C : Array Value) (hC : C.toList = r.enc) (h1c : r.s.oneCell' = true) (hgd : o.guard = none) (s0 x0 : Operand)
    (ho : o.op = .call { callee := .builtin .append, args := #[s0, x0], argTypes := #[49, 49] }) {B : Nat} {v : Value} {l : List Fl} (hs : a.eval s0 = v) (hown : OwnF w B v l) (hr : El w v r)
    (g : Nat) (hx : a.eval x0 = .slice (some ⟨g, 0, none⟩) 1 1) (hg : g = w.heap.size) (hn : l.length ≤ 1000000000) (hB : B ≤ w.heap.size)
    (h : ∀ v' w', OwnF w' B v' (l ++ [r]) → w.grownBy w' v.ownBlock → (v'.ownBlock = v.ownBlock ∨ ∃ k, v'.ownBlock = some k ∧ w.heap.size ≤ k) → wpList Tryz.prog ops Q rest (a.put o.dst v') w') :
    wpList Tryz.prog ops Q (o :: rest) a (w.alloc (.cells C 91)) := by
  subst hg
  have hC3 : C.size = 2 := by rw [← Array.length_toList, hC]; rfl
  exact wp_app1 w C hgd s0 x0 _ ho B 91 _ 2 40 Tryz.underlying49 Tryz.infoFl rfl (by omega) v _ _ hs hown.1 hx hC3 (by rw [hC]; intro u hu; simp [Fl.enc] at hu; rcases hu with rfl | rfl; rfl; exact h1c) (by unfold maxLen; omega) (by omega) hB
    fun v' w' h1 h2 h3 => h v' w' (hown.app (by unfold OwnG; rw [List.length_append, List.flatMap_append]; simpa [← hC] using h1) h2 h3 hr) h2 h3
section
variable {w : World} {B d : Nat} {o : Own1} {S : Dk} {c : Con}
set_option maxHeartbeats 4000000 in
theorem files_gen (HS : SortS) (h : DI w B o d S c) (hfl : S.fs.length ≤ 1000000) :
    Calls Tryz.prog 15 #[.pointer (some ⟨d, 0, none⟩)] w fun e w' => ∃ v l, e = .returned v ∧ OwnF w' w.heap.size v l ∧ l.map Fl.n = sortN (S.fs.map Fi.name) ∧ (∀ x ∈ l, x.b = S.nowOf x.n) ∧ (∀ x ∈ l, ∀ q, blk x.s = some q → w.heap.size ≤ q ∧ q < w'.heap.size) ∧ w.grownBy w' none := by
  have HNM := Lib.hid (names_gen HS h hfl)
  have H := Lib.hid h
  have HFL := Lib.hid hfl
  clear h hfl HS
  go_enter Tryz.func15, Tryz.ntmps15
  go_wp2_with fail
  refine HNM.out.mono ?_
  rintro e w1 ⟨v1, rfl, o1, g1⟩
  obtain ⟨ns, hns⟩ : ∃ ns, ns = sortN (S.fs.map Fi.name) := ⟨_, rfl⟩
  rw [← hns] at o1
  have p1 : ns.Perm (S.fs.map Fi.name) := by rw [hns]; exact sortN_prm _
  have HNS := Lib.hid hns
  clear hns
  have HP := Lib.hid p1
  have G1 := Lib.hid g1
  have H1 := Lib.hid (H.out.ext g1)
  have hnl : ns.length ≤ 1000000 := by have := p1.length_eq; have := HFL.out; simp at *; omega
  obtain ⟨A, cc, rfl⟩ := OwnS.form o1
  obtain ⟨_, _, _, g, off, e, hn, hc, _, hA, hx⟩ := Own.rd o1
  cases e
  have HA := Lib.hid hA
  have HC : Hid (∀ k (hk : k < ns.length), w1.cell? ⟨g, off + k, none⟩ = some (.string ⟨ns[k].toArray⟩)) := fun k hk => by
    show w1.cell? ⟨g, off + k, none⟩ = _
    rw [hx k (by omega)]; simp [strL, hk]
  clear p1 g1 o1 hA hx HNM
  go_wp2
  go_loopw [3, 5, 9] (fun u _ i wr => ∃ (k : Nat) (m : List Fl), k ≤ ns.length ∧ i = .int .i64 k ∧ Hid (OwnF wr w1.heap.size u m) ∧ Hid (m.map Fl.n = ns.take k) ∧ Hid (∀ x ∈ m, x.b = S.nowOf x.n) ∧ Hid (∀ x ∈ m, ∀ q, blk x.s = some q → w.heap.size ≤ q ∧ q < wr.heap.size) ∧ Hid (m.length = k) ∧ w1.grownBy wr none) (fun _ _ i _ => ns.length - (intOf i).toNat)
  case atStart => exact ⟨0, [], by omega, rfl, OwnF.nil _ _, Lib.hid rfl, Lib.hid (fun x hx => by cases hx), Lib.hid (fun x hx => by cases hx), Lib.hid rfl, gr_refl _ _⟩
  case round =>
    obtain ⟨k, m, hk, rfl, ho, hm, hb, hnb, hml, hg⟩ := hrel
    obtain ⟨Au, cu, rfl⟩ := OwnF.form ho.out
    by_cases hlt : k < ns.length
    · have := HA.out (by omega)
      subst this
      have c0 := hg.cell (HC.out k hlt) (by simp)
      have HM : Hid (m.map Fl.n ++ [ns[k]] = ns.take (k + 1)) := by show _ = _; rw [hm.out, List.take_succ_eq_append_getElem hlt]
      obtain ⟨nm, hnm⟩ : ∃ nm, nm = ns[k] := ⟨_, rfl⟩
      have hin : nm ∈ S.fs.map Fi.name := HP.out.mem_iff.1 (by rw [hnm]; exact List.getElem_mem hlt)
      rw [← hnm] at c0 HM
      clear hnm hm
      obtain ⟨f, hfm, rfl⟩ := List.mem_map.1 hin
      have hfind : S.find f.name = some f := find_mem H.out.names hfm
      have h5 := H1.out.ext hg
      have hF := h5.file f hfm
      have hc5 : wr.cell? ⟨d, 0, none⟩ = some (.map (some c.mb)) := h5.self.cell 0
      have hk5 := h5.fm.look (s := f.name) (by unfold maxLen; have := hF.small.1; omega)
      rw [dom_some c hfind] at hk5
      have hk6 : wr.cell? ⟨c.fb f.name, 0, none⟩ = some (c.nv f.name) := hF.box.cell 0
      have HL : Hid (f.now.length ≤ 16777216) := hF.small.2.1
      have HR := Lib.hid (Own.rd hF.now)
      have HN : Hid (S.nowOf f.name = f.now) := nowOf_some hfind
      obtain ⟨A2, c2, hnv⟩ := RdB.form HR.out
      rw [hnv] at hk6 HR
      have HCL := Lib.hid (cloneB _ f.now wr HR.out (by have := HL.out; omega))
      have HG := Lib.hid hg
      have hmk : m.length ≤ 1000000 := by have := hml.out; omega
      have hz := hg.size
      clear h5 hF hfind hnv hin hg
      go_wp2_with (first
        | (go_at_call 42; refine HCL.out.mono ?_; rintro e w4 ⟨v4, rfl, o4, g4⟩; have O4 := Lib.hid (ho.out.ext g4); have E4 : Hid (El w4 (Value.slice Au m.length cu) ⟨f.name, f.now, v4⟩) := ⟨Own.rd o4, fun h0 q e => ⟨Own.lies o4 h0 (by omega) q e, fun e2 => by have h7 := ho.out.2.1 q e2; have h8 := Own.lt o4 q e; omega⟩⟩; have G4 := Lib.hid g4; have HNB : Hid (∀ q, blk v4 = some q → w.heap.size ≤ q ∧ q < w4.heap.size) := (fun q e => ⟨Nat.le_trans (Nat.le_trans G1.out.size HG.out.size) (Own.blk_lt o4 (by omega) e).1, (Own.blk_lt o4 (by omega) e).2⟩); obtain ⟨A4, c4, rfl⟩ := RdB.form (Own.rd o4); clear o4 g4)
        | (at_builtin; refine wp_app1F ⟨f.name, f.now, Value.slice A4 f.now.length c4⟩ _ rfl rfl rfl (.tmp 13) (.tmp 26) rfl rfl O4.out E4.out _ rfl rfl (by omega) (by have := G4.out.size; omega) ?_; intro v6 w6 o6 g6 a6; have O6 := Lib.hid o6; have GZ6 := Lib.hid g6.size; have G6 : w1.grownBy w6 none := gr_trans (gr_none HG.out G4.out) g6 (.inr fun q e => Own.lt ho.out.1 q e); clear o6 g6 a6))
      have HB : Hid (∀ x ∈ m ++ [⟨f.name, f.now, Value.slice A4 f.now.length c4⟩], x.b = S.nowOf x.n) := fun x hx => by
        rcases List.mem_append.1 hx with hx | hx
        · exact hb.out x hx
        · rw [List.mem_singleton.1 hx]; exact HN.out.symm
      have HNB6 : Hid (∀ x ∈ m ++ [⟨f.name, f.now, Value.slice A4 f.now.length c4⟩], ∀ q, blk x.s = some q → w.heap.size ≤ q ∧ q < w6.heap.size) := fun x hx q e => by
        have hz4 := G4.out.size
        have hz6 := GZ6.out
        rcases List.mem_append.1 hx with hx | hx
        · have := hnb.out x hx q e
          omega
        · rw [List.mem_singleton.1 hx] at e
          have := HNB.out q e
          omega
      go_roundw
      case rel => exact ⟨k + 1, _, by omega, by go_num, O6, Lib.hid (by rw [List.map_append, ← HM.out]; rfl), HB, HNB6, Lib.hid (by rw [List.length_append, hml.out]; rfl), G6⟩
      case measure => simp [intOf]; omega
    · obtain rfl : k = ns.length := by omega
      have HM : Hid (m.map Fl.n = sortN (S.fs.map Fi.name)) := by show _ = _; rw [hm.out, List.take_length]; exact HNS.out
      have HG := Lib.hid hg
      clear hm hg
      go_wp2
      go_ret
      exact ⟨_, m, rfl, ho.out.mono G1.out.size, HM.out, hb.out, hnb.out, gr_none G1.out HG.out⟩
theorem files_any (HS : SortS) (h : DI w B o d S c) (hfl : S.fs.length ≤ 1000000) (_hfp : 0 < S.fs.length) :
    Calls Tryz.prog 15 #[.pointer (some ⟨d, 0, none⟩)] w fun e w' => ∃ v l, e = .returned v ∧ OwnF w' w.heap.size v l ∧ (l.map Fl.n).Perm (S.fs.map Fi.name) ∧ (∀ x ∈ l, x.b = S.nowOf x.n) ∧ w.grownBy w' none :=
  (files_gen HS h hfl).mono fun _ _ ⟨v, l, e1, k1, k2, k3, _, k4⟩ => ⟨v, l, e1, k1, by rw [k2]; exact sortN_prm _, k3, k4⟩
end
section
variable {w0 w : World} {d : Nat} {o : Own1} {S : Dk}
theorem DA.files (HS : SortS) (h : DA w0 d o S w) (hfl : S.fs.length ≤ 1000000) (hfp : 0 < S.fs.length) :
    Calls Tryz.prog 15 #[.pointer (some ⟨d, 0, none⟩)] w fun e w' => ∃ v l, e = .returned v ∧ RdF w' v l ∧ Told w' l S.fs ∧ w.grownBy w' none := by
  obtain ⟨c, h1⟩ := h.di
  refine (files_any HS h1 hfl hfp).mono ?_
  rintro e w' ⟨v, l, rfl, o1, p, b, g⟩
  refine ⟨v, l, rfl, OwnG.rd o1.1, ⟨p, fun x hx => ?_⟩, g⟩
  have : x.n ∈ S.fs.map Fi.name := p.mem_iff.1 (List.mem_map.2 ⟨x, hx, rfl⟩)
  obtain ⟨f, hf, e⟩ := List.mem_map.1 this
  have h2 : S.nowOf x.n = f.now := by rw [← e]; exact nowOf_some (find_mem h1.names hf)
  exact ⟨f, hf, e, by rw [← h2, ← b x hx]; exact (o1.2.2 x hx).1⟩
end
end Go.Proofs.YtipankjajdpiiaaGreat

/- SameFiles of law06 where both are alike. -/
namespace Go.Proofs.YtipankjajdpiiaaGreat
open Go.RowKit Go.Maps
set_option maxRecDepth 100000
set_option maxHeartbeats 400000

/-- the files that were told are the same. -/
def Alike (w : World) (l l' : List Fl) : Prop := l.length = l'.length ∧ ∀ i (h : i < l.length) (h' : i < l'.length), l[i].n = l'[i].n ∧ l[i].b = l'[i].b ∧ l[i].b.length ≤ 1000000000 ∧ RdB w l[i].s l[i].b ∧ RdB w l'[i].s l'[i].b
set_option maxHeartbeats 2000000 in
theorem sameFiles_any {A A' : Option Addr} {c c' : Nat} (l l' : List Fl) (w : World) (h : RdG Fl.enc 2 w (.slice A l.length c) l) (h' : RdG Fl.enc 2 w (.slice A' l'.length c') l') (ha : Alike w l l') (hn : l.length ≤ 1000000) :
    Calls Tryz.prog 14 #[.slice A l.length c, .slice A' l'.length c'] w fun e w' => e = .returned (.bool true) ∧ w.grownBy w' none := by
  obtain ⟨hlen, hal⟩ := ha
  rw [← hlen] at h' ⊢
  have HAL := Lib.hid hal
  have HL := Lib.hid hlen
  have H1 := Lib.hid h
  have H2 := Lib.hid h'
  clear h h' hal hlen
  go_enter Tryz.func14, Tryz.ntmps14
  go_wp2_with fail
  go_loopw [5] (fun iv wr => ∃ k : Nat, k ≤ l.length ∧ iv = .int .i64 k ∧ w.grownBy wr none) (fun iv _ => l.length - (intOf iv).toNat)
  case atStart => exact ⟨0, Nat.zero_le _, rfl, gr_refl _ _⟩
  case round =>
    obtain ⟨k, hk, rfl, hg⟩ := hrel
    by_cases hlt : k < l.length
    · have hlt' : k < l'.length := by rw [← HL.out]; exact hlt
      obtain ⟨ga, offa, hAa, -, hcella⟩ := RdG.at_ fl2 (RdG.ext H1.out hg)
      obtain rfl := hAa (by omega)
      have h2 := H2.out
      rw [HL.out] at h2
      obtain ⟨gb, offb, hAb, -, hcellb⟩ := RdG.at_ fl2 (RdG.ext h2 hg)
      obtain rfl := hAb (by omega)
      have a0 := hcella k hlt 0 (by omega)
      have a1 := hcella k hlt 1 (by omega)
      have b0 := hcellb k hlt' 0 (by omega)
      have b1 := hcellb k hlt' 1 (by omega)
      obtain ⟨e1, e2, e3, e4, e5⟩ := HAL.out k hlt hlt'
      obtain ⟨⟨nm, b, s⟩, hx⟩ : ∃ x, x = l[k] := ⟨_, rfl⟩
      obtain ⟨⟨nm2, b2, s2⟩, hx2⟩ : ∃ x, x = l'[k] := ⟨_, rfl⟩
      rw [← hx] at a0 a1 e1 e2 e3 e4
      rw [← hx2] at b0 b1 e1 e2 e5
      obtain rfl : nm = nm2 := e1
      obtain rfl : b = b2 := e2
      have e3' : b.length ≤ 1000000000 := e3
      have hr1 : RdB w s b := e4
      have hr2 : RdB w s2 b := e5
      have c0 : wr.cell? ⟨ga, offa + k * 2, none⟩ = some (.string ⟨nm.toArray⟩) := a0
      have c1 : wr.cell? ⟨ga, offa + k * 2 + 1, none⟩ = some s := a1
      have d0 : wr.cell? ⟨gb, offb + k * 2, none⟩ = some (.string ⟨nm.toArray⟩) := b0
      have d1 : wr.cell? ⟨gb, offb + k * 2 + 1, none⟩ = some s2 := b1
      obtain ⟨As, cs, rfl⟩ := RdB.form hr1
      obtain ⟨Bs, ds, rfl⟩ := RdB.form hr2
      have HS := Lib.hid (fun wx (g : wr.grownBy wx none) => same6_q _ _ b b wx ((hr1.ext hg).ext g) ((hr2.ext hg).ext g) e3' e3')
      have HG := Lib.hid hg
      have hkb : (0 : Int) ≤ (k : Int) := by omega
      have hkl : (k : Int) < (l.length : Int) := by omega
      have hself : (nm == nm) = true := by simp
      clear hcella hcellb a0 a1 b0 b1 e3 e3' e4 e5 hr1 hr2 hx hx2 hlt' h2 hg
      go_wp2_with fail
      go_region_held3 (fun w' => w'.cell? ⟨ga, offa + k * 2, none⟩ = some (.string ⟨nm.toArray⟩) ∧ w'.cell? ⟨ga, offa + k * 2 + 1, none⟩ = some (.slice As b.length cs) ∧ w'.cell? ⟨gb, offb + k * 2, none⟩ = some (.string ⟨nm.toArray⟩) ∧ w'.cell? ⟨gb, offb + k * 2 + 1, none⟩ = some (.slice Bs b.length ds)) (go_keep) (first
        | (go_at_call 40; (with_reducible refine (HS.out _ ?_).mono ?_); (first | exact gr_drew _ _ | exact gr_refl _ _); rintro e w6 ⟨rfl, q6, rfl⟩; rw [beq_self_eq_true]))
      go_wp2
      go_roundw
      case rel => exact ⟨k + 1, by omega, by go_num, gr_none HG.out (gr_drewN _ _ _)⟩
      case measure => simp [intOf] <;> omega
    · obtain rfl : k = l.length := by omega
      have HG := Lib.hid hg
      clear hg
      go_wp2_with fail
      go_ret
      exact ⟨rfl, HG.out⟩
end Go.Proofs.YtipankjajdpiiaaGreat
