/-
  disk.Loose: the order of sectors in the program, and the range over the loose ones.
-/
import Derived.Test.YtkpmadahfmpeiaaGreatVm
import Derived.Test.YtkpmadahfmpeiaaGreatDi
import Derived.Sort.Grow
import Derived.Test.YtkpmadahfmpeiaaGreatMem
import Derived.Test.YtkpmadahfmpeiaaGreatDw7
import Derived.Test.YtkpmadahfmpeiaaGreatLi
import Derived.Deep.DeepCutAuto
import Derived.Test.YtkpmadahfmpeiaaGreatOct
import Derived.Deep.RegionHeld3
import Derived.Deep.DrawnRows
namespace Go.Proofs.YtkpmadahfmpeiaaGreat
open Go.RowKit Go.Maps Go.Sort
set_option maxRecDepth 100000
set_option maxHeartbeats 400000

theorem strB_eq (x y : List UInt8) : ((⟨x.toArray⟩ : ByteArray).toList == (⟨y.toArray⟩ : ByteArray).toList) = (x == y) := by simp
/-- the order, as the program has it. -/
theorem secCmp_any (x y : Sec) (W : World) : Calls Tryz.prog 96 #[.agg x.enc.toArray, .agg y.enc.toArray] W fun e w' => e = .returned (.int .i64 (secC x y)) ∧ ∃ q os', w' = grow (W.drewN q) os' := by
  obtain ⟨a, p⟩ := x
  obtain ⟨b, q⟩ := y
  have hp := p.toNat_lt
  have hq := q.toNat_lt
  unfold Sec.enc secC
  by_cases h1 : bl a b = true
  · rw [if_pos h1]
    have h1' : Op.bytesLess a b = true := h1
    clear h1
    go_enter Tryz.func96, Tryz.ntmps96
    go_wp2
    go_ret
    exact ⟨rfl, 0, _, by rw [alloc_eq_grow, alloc_eq_grow, grow_grow]; rfl⟩
  · have h1' : Op.bytesLess a b = false := by simpa using h1
    rw [if_neg h1]
    by_cases h2 : bl b a = true
    · rw [if_pos h2]
      have hne : (a == b) = false := by
        rw [beq_eq_false_iff_ne]
        intro e
        rw [e, bl_irrefl] at h2; cases h2
      clear h1 h2
      go_enter Tryz.func96, Tryz.ntmps96
      go_wp2
      go_ret
      exact ⟨rfl, 0, _, by rw [alloc_eq_grow, alloc_eq_grow, grow_grow]; rfl⟩
    · rw [if_neg h2]
      have e := bl_tri _ _ h1' (by simpa using h2)
      subst e
      have hne : (a == a) = true := by simp
      have hp1 : (p.toNat : Int) < 4294967296 := by omega
      have hq1 : (q.toNat : Int) < 4294967296 := by omega
      clear h1 h2
      go_enter Tryz.func96, Tryz.ntmps96
      go_wp2
      go_ret
      exact ⟨rfl, 0, _, by rw [alloc_eq_grow, alloc_eq_grow, grow_grow]; rfl⟩
section
variable {w w' : World} {m n r cnt : Nat} {L left : List UInt8 → Int → Bool}
/-- range m, with how many there are at most. -/
theorem wp_lm_range2 {ops : Array Oper} {rest : List Oper} {o : Oper} {a : Act} {Q : Exit → Act → World → Prop} (hg : o.guard = none) (mm : Operand) (hop : o.op = .range 107 mm)
    (h : LM w m n L) (hm : a.eval mm = .map (some m))
    (hK : ∀ w' cnt, cnt ≤ n → LR w' m w.heap.size n L L cnt → w.grownBy w' none → w'.heap.size = w.heap.size + 1 → wpList Tryz.prog ops Q rest (a.put o.dst (.pointer (some ⟨w.heap.size, 0, none⟩))) w') :
    wpList Tryz.prog ops Q (o :: rest) a w := by
  obtain ⟨D, h, h0⟩ := h
  exact wpList_range_own w hg mm _ hop 170 4 Tryz.keyedK Tryz.underlying107 _ m n D hm h fun w' r1 r2 r3 => hK w' _ h.size_le ⟨D, _, r1, h0, h0⟩ r2 r3
end
def OwnP (w : World) (B : Nat) (v : Value) (l : List Sec) : Prop := Go.Proofs.YtkpmadahfmpeiaaGreat.Own w B 2 v l.length (l.flatMap Sec.enc)
theorem Tryz.infoPl : (Tryz.prog.info? 129).map (fun i => (i.zero, i.size, i.bytes)) = some (some (.agg #[.string ⟨#[]⟩, .int .i64 0]), 2, 24) := by kernel_rfl
/-- append(v, x) of a sector. -/
theorem wp_app1P {ops : Array Oper} {rest : List Oper} {o : Oper} {a : Act} {Q : Exit → Act → World → Prop} {w : World} (x : Sec) (hgd : o.guard = none) (s0 x0 : Operand)
    (ho : o.op = .call { callee := .builtin .append, args := #[s0, x0], argTypes := #[95, 95] }) {B : Nat} {v : Value} {l : List Sec} (hs : a.eval s0 = v) (hown : OwnP w B v l)
    (hx : a.eval x0 = .slice (some ⟨w.heap.size, 0, none⟩) 1 1) (hn : l.length ≤ 1000000000) (hB : B ≤ w.heap.size)
    (h : ∀ v' w', OwnP w' B v' (l ++ [x]) → w.grownBy w' v.ownBlock → (v'.ownBlock = v.ownBlock ∨ ∃ k, v'.ownBlock = some k ∧ w.heap.size ≤ k) → wpList Tryz.prog ops Q rest (a.put o.dst v') w') :
    wpList Tryz.prog ops Q (o :: rest) a (w.alloc (.cells x.enc.toArray 129)) := by
  refine wp_app1 w x.enc.toArray hgd s0 x0 _ ho B 129 _ 2 24 Tryz.underlying95 Tryz.infoPl rfl (by omega) v _ _ hs hown hx rfl (by intro u hu; simp [Sec.enc] at hu; rcases hu with rfl | rfl <;> rfl) (by unfold maxLen; omega) (by omega) hB
    fun v' w' h1 h2 h3 => h v' w' ?_ h2 h3
  unfold OwnP
  rw [List.length_append, List.flatMap_append]
  simpa using h1
end Go.Proofs.YtkpmadahfmpeiaaGreat

/- disk.Loose. -/
namespace Go.Proofs.YtkpmadahfmpeiaaGreat
open Go.RowKit Go.Maps
set_option maxRecDepth 100000
set_option maxHeartbeats 400000

/-- what slices.SortFunc does with sectors. -/
def SortsP : Prop := ∀ (wx : World) (B : Nat) (v : Value) (l : List Sec), OwnP wx B v l → l.length ≤ 1000000000 →
  Calls Tryz.prog 95 #[v, .func (.func 96) #[] #[]] wx fun e w' =>
    e = .returned (.tuple #[]) ∧ ∃ l', l'.Perm l ∧ (l.Nodup → SecUp l') ∧ OwnP w' B v l' ∧ wx.grownBy w' v.ownBlock
/-- loose sectors have small numbers. -/
def LooseOk (S : Dk) : Prop := ∀ s k, okK s k → S.loose s k = true → 0 ≤ k ∧ k < 4294967296
/-- the list has what is loose and no longer to come. -/
def LsOf (lo left : List UInt8 → Int → Bool) (l : List Sec) : Prop := l.Nodup ∧ (∀ s k, okK s k → ((lo s k = true ∧ left s k = false) ↔ ∃ p : UInt32, (⟨s, p⟩ : Sec) ∈ l ∧ k = (p.toNat : Int))) ∧ (∀ x ∈ l, okK x.name (x.page.toNat : Int)) ∧ ∀ s k, okK s k → left s k = true → lo s k = true
theorem LsOf.start (lo : List UInt8 → Int → Bool) : LsOf lo lo [] := ⟨List.nodup_nil, fun s k _ => ⟨(fun h => by have h1 := h.1; rw [h.2] at h1; cases h1), (fun ⟨p, h, _⟩ => by cases h)⟩, (fun x h => by cases h), fun _ _ _ h => h⟩
theorem LsOf.step {lo left : List UInt8 → Int → Bool} {l : List Sec} (h : LsOf lo left l) {s : List UInt8} {k : Int} (hk : okK s k) (hl : left s k = true) (hlo : lo s k = true) {p : UInt32} (hp : k = (p.toNat : Int)) : LsOf lo (noK left s k) (l ++ [⟨s, p⟩]) := by
  have hnot : (⟨s, p⟩ : Sec) ∉ l := fun hm => by
    have := (h.2.1 s k hk).2 ⟨p, hm, hp⟩
    rw [hl] at this; cases this.2
  refine ⟨?_, fun y j hy => ?_, fun x hx => ?_, fun y j hy h1 => h.2.2.2 y j hy (by unfold noK at h1; simp at h1; exact h1.1)⟩
  · rw [List.nodup_append]
    exact ⟨h.1, by simp, fun a ha b hb => by rw [List.mem_singleton.1 hb]; exact fun e => hnot (e ▸ ha)⟩
  · constructor
    · rintro ⟨h1, h2⟩
      by_cases e : y = s ∧ j = k
      · obtain ⟨rfl, rfl⟩ := e
        exact ⟨p, by simp, hp⟩
      · have hf : (y == s && j == k) = false := by
          rw [Bool.eq_false_iff]
          intro h
          simp only [Bool.and_eq_true, beq_iff_eq] at h
          exact e h
        have h3 : left y j = false := by
          unfold noK at h2
          rw [hf] at h2
          simpa using h2
        obtain ⟨q, hq, e⟩ := (h.2.1 y j hy).1 ⟨h1, h3⟩
        exact ⟨q, List.mem_append_left _ hq, e⟩
    · rintro ⟨q, hq, e⟩
      rcases List.mem_append.1 hq with hq | hq
      · obtain ⟨h1, h2⟩ := (h.2.1 y j hy).2 ⟨q, hq, e⟩
        exact ⟨h1, by unfold noK; rw [h2]; rfl⟩
      · have := List.mem_singleton.1 hq
        obtain ⟨rfl, rfl⟩ : y = s ∧ q = p := by cases this; exact ⟨rfl, rfl⟩
        rw [← hp] at e
        subst e
        exact ⟨hlo, by unfold noK; simp⟩
  · rcases List.mem_append.1 hx with hx | hx
    · exact h.2.2.1 x hx
    · rw [List.mem_singleton.1 hx]; rw [hp] at hk; exact hk
section
variable {w : World} {B d : Nat} {o : Own1} {S : Dk} {c : Con}
def LooseOut (w : World) (S : Dk) (e : Ending) (w' : World) : Prop :=
  ∃ v l, e = .returned v ∧ OwnP w' w.heap.size v l ∧ SecUp l ∧ (∀ s k, okK s k → (S.loose s k = true ↔ ∃ p : UInt32, (⟨s, p⟩ : Sec) ∈ l ∧ k = (p.toNat : Int))) ∧ (∀ x ∈ l, okK x.name (x.page.toNat : Int)) ∧ l.length ≤ S.nl ∧ w.grownBy w' none
set_option maxHeartbeats 2000000 in
theorem loose_any (hsort : SortsP) (h : DI w B o d S c) (hok : LooseOk S) (hnl : S.nl ≤ 1000000000) :
    Calls Tryz.prog 40 #[.pointer (some ⟨d, 0, none⟩)] w (LooseOut w S) := by
  have hc := h.self.cell 1
  have hlm := h.lm
  unfold selfC at hc
  have hc1 : w.cell? ⟨d, 1, none⟩ = some (.map (some c.lb)) := hc
  have HS := Lib.hid hsort
  have HOK := Lib.hid hok
  have hlb : c.lb < w.heap.size := hlm.lt
  clear h hc hsort hok
  go_enter Tryz.func40, Tryz.ntmps40
  go_wp2_with (at_range; refine wp_lm_range2 rfl _ rfl hlm rfl ?_; intro w0 cnt hcnt hlr g0 hz0)
  go_frame
  clear hlm
  have HLR := Lib.hid hlr
  have G0 := Lib.hid g0
  clear hlr g0
  go_loopw [3, 4] (fun v _ wr => ∃ (left : List UInt8 → Int → Bool) (cnt : Nat) (l : List Sec), LR wr c.lb w.heap.size S.nl S.loose left cnt ∧ OwnP wr (w.heap.size + 1) v l ∧ Hid (LsOf S.loose left l) ∧ l.length + cnt ≤ S.nl ∧ w.grownBy wr none ∧ w.heap.size + 1 ≤ wr.heap.size) (fun _ _ wr => wr.rangeLeft c.lb w.heap.size)
  case atStart => exact ⟨_, _, [], HLR.out, Own.nil _ _ _, LsOf.start _, by simpa using hcnt, G0.out, by omega⟩
  case round =>
    obtain ⟨left, cnt2, l, hlr, hown, hls, hln, hgr, hsz⟩ := hrel
    have hleft := hlr.left_eq
    have HL0 := Lib.hid hleft
    have HR := Lib.hid hgr
    have HO := Lib.hid hown
    clear hleft hgr hown
    go_wp2_with (at_next; refine wp_lm_next rfl _ rfl hlr rfl ?_ ?_)
    · intro h0 hl0
      have HEND : Hid (∀ s k, okK s k → (S.loose s k = true ↔ ∃ p : UInt32, (⟨s, p⟩ : Sec) ∈ l ∧ k = (p.toNat : Int))) := fun s k hk => by
        rw [← hls.out.2.1 s k hk, hl0 s k hk]; simp
      have HSP := Lib.hid (HS.out wr _ _ l HO.out (by omega))
      have HND := Lib.hid hls.out.1
      have HKK := Lib.hid hls.out.2.2.1
      clear hl0 hlr hls
      go_wp2_with fail
      refine HSP.out.mono ?_
      rintro e w5 ⟨rfl, l', hpm, hup, ho5, g5⟩
      have HPM := Lib.hid hpm
      have HUP := Lib.hid (hup HND.out)
      have HO5 := Lib.hid ho5
      have HG5 : Hid (w.grownBy w5 none) := gr_trans HR.out g5 (.inr fun k e => by have := HO.out.lt k e; omega)
      clear hpm hup ho5 g5
      go_wp2
      go_ret
      refine ⟨_, l', rfl, HO5.out.mono (by omega), HUP.out, fun s k hk => ?_, fun x hx => HKK.out x (HPM.out.mem_iff.1 hx), by have := HPM.out.length_eq; omega, HG5.out⟩
      rw [HEND.out s k hk]
      constructor
      · rintro ⟨p, hp, e⟩; exact ⟨p, HPM.out.mem_iff.2 hp, e⟩
      · rintro ⟨p, hp, e⟩; exact ⟨p, HPM.out.mem_iff.1 hp, e⟩
    · intro s k w2 cnt3 hok hls2 hlr2 hlt2 g2 hz2 hen v2
      obtain ⟨b2, hb2⟩ : ∃ b2, (Instr.entry (.pointer (some ⟨w.heap.size, 0, none⟩))).run Tryz.prog w2 = .ok (.tuple #[.agg #[.string ⟨s.toArray⟩, .int .i64 k], .bool b2]) w2 := by rcases hen with e | e; exact ⟨_, e⟩; exact ⟨_, e⟩
      have hlo : S.loose s k = true := hls.out.2.2.2 s k hok hls2
      obtain ⟨h0k, h1k⟩ := HOK.out s k hok hlo
      obtain ⟨p, rfl⟩ : ∃ p : UInt32, k = (p.toNat : Int) := ⟨UInt32.ofNat k.toNat, by rw [UInt32.toNat_ofNat_of_lt' (by show _ < 4294967296; omega)]; omega⟩
      have HLS := Lib.hid (hls.out.step hok hls2 hlo rfl)
      have HLR2 := Lib.hid hlr2
      have HG2 : Hid (w.grownBy w2 none) := gr_trans HR.out g2 (.inr fun q e => by cases e; exact Nat.le_refl _)
      have HO2 : Hid (OwnP w2 (w.heap.size + 1) _ l) := Own.gr HO.out g2 (fun k e => by cases e; intro h; have := HO.out.lt _ h; omega)
      have hz2' : w.heap.size + 1 ≤ w2.heap.size := by omega
      clear hlr hen hlr2 g2 hls2 hls hlo h0k h1k hok hz2
      have HA : Hid (OwnP (w2.alloc (.cells #[.string ⟨s.toArray⟩, .int .i64 (p.toNat : Int)] 170)) (w.heap.size + 1) _ l) := Own.alloc HO2.out _
      have hll : l.length ≤ 1000000000 := by omega
      have hBB : w.heap.size + 1 ≤ (w2.alloc (.cells #[.string ⟨s.toArray⟩, .int .i64 (p.toNat : Int)] 170)).heap.size := by simp; omega
      have hxx : ∀ n : Nat, Value.slice (some ⟨w2.heap.size + 1, 0, none⟩) 1 1 = Value.slice (some ⟨(w2.alloc (.cells #[.string ⟨s.toArray⟩, .int .i64 (p.toNat : Int)] 170)).heap.size, 0, none⟩) 1 1 := fun _ => by simp
      go_wp2_with (at_builtin; refine wp_app1P (w := w2.alloc (.cells #[.string ⟨s.toArray⟩, .int .i64 (p.toNat : Int)] 170)) ⟨s, p⟩ rfl (.tmp 16) (.tmp 22) rfl rfl HA.out (hxx 0) hll hBB ?_; rintro v3 w3 o3 g3 -)
      have gv : w2.grownBy w3 u3.ownBlock := gr_trans (gr_alloc _ _ _) g3 (.inl rfl)
      have hb3 : ∀ j, u3.ownBlock = some j → w.heap.size + 1 ≤ j := HO2.out.lt
      have hl3 := HLR2.out.gr gv (fun e => by have := hb3 _ e; omega) (fun e => by have := hb3 _ e; omega)
      have hg3 : w.grownBy w3 none := gr_trans HG2.out gv (.inr fun j e => by have := hb3 _ e; omega)
      refine ⟨⟨_, _, _, hl3, o3, HLS.out, by rw [List.length_append]; simp; omega, hg3, by have := gv.size; omega⟩, ?_⟩
      rw [hl3.left_eq, HL0.out]
      exact hlt2
end
end Go.Proofs.YtkpmadahfmpeiaaGreat

/- copy into a part of a list of the call's own; append of noughts. -/
namespace Go.Proofs.YtkpmadahfmpeiaaGreat
open Go.RowKit
set_option maxRecDepth 100000

/-- copy(v[p:q], x), where x has just so many. -/
theorem run_copyM (w : World) (ty : TypeId) (B p : Nat) (A : Option Addr) (c : Nat) (l m : List UInt8) (hown : OwnB w B (.slice A l.length c) l) (hpm : p + m.length ≤ l.length) (x : Value) (hr : RdB w x m) :
    ∃ w', (Builtin.copy_ #[33, 33] ty #[.slice (cutA A c p 1) m.length (c - p), x]).run Tryz.prog w = .ok (.int .i64 m.length) w' ∧ OwnB w' B (.slice A l.length c) (over l p m) ∧ Ext0 w w' (.slice A l.length c) (.slice A l.length c) := by
  obtain ⟨i, hi, hz, hsize, hby⟩ := info_parts Tryz.info5
  have hown0 := hown
  obtain ⟨hl, A', c', g, off, e, hn, hc, hA0, hA, hb, hx, hf⟩ := hown
  cases e
  obtain ⟨hl2, A2, c2, g2, off2, rfl, hn2, hc2, hA02, hA2, hx2⟩ := hr
  have hmin : Nat.min m.length m.length = m.length := Nat.min_eq_left (by omega)
  have hgi : goInt m.length = .int .i64 m.length := rfl
  rcases Nat.eq_zero_or_pos m.length with h0 | h0
  · obtain rfl : m = [] := List.eq_nil_of_length_eq_zero h0
    refine ⟨w, ?_, by rw [over_nil]; exact hown0, ext0_refl w _⟩
    have hfc : (Builtin.firstCells 1 0 (.slice A2 0 c2)).run Tryz.prog w = .ok #[] w := by cases A2 <;> simp [Builtin.firstCells, loadCells, loadCellsFrom]
    have hz0 : goInt 0 = .int .i64 0 := rfl
    cases hcu : cutA A c p 1 <;> simp [Builtin.copy_, run_underlying Tryz.underlying33, sizeOf, typeInfo, hi, hsize, Builtin.lenOf, hfc, storeCells, hz0]
  · obtain rfl := hA2 (by omega)
    obtain rfl := hA (by omega)
    have hnews : ∀ j u, (m.map u8v)[j]? = some u → w.cell? ((⟨g2, off2, none⟩ : Addr).add j) = some u := by
      intro j u hu
      have hj : j < (m.map u8v).length := (List.getElem?_eq_some_iff.1 hu).1
      rw [Addr.add_lit, hx2 j (by simpa using hj), hu]
    have hfc := run_firstCells_some (P := Tryz.prog) w 1 m.length ⟨g2, off2, none⟩ m.length c2 (m.map u8v) (by simp) hnews
    have hst := run_storeCells_cells (P := Tryz.prog) g (off + p) (m.map u8v) 0 w (fun j hj => by rw [Nat.add_zero, Nat.add_assoc]; exact (hf _ (by simp at hj; omega)).1) (fun j hj => by rw [Nat.add_zero, Nat.add_assoc]; exact (hf _ (by simp at hj; omega)).2) (u8_one m)
    rw [Nat.add_zero] at hst
    have hcut : cutA (some ⟨g, off, none⟩) c p 1 = some ⟨g, off + p, none⟩ := by
      unfold cutA
      rw [if_neg (by omega)]
      simp [Addr.add_lit]
    have hin := World.cell?_setCells_in g (m.map u8v) (off + p) w (fun j hj => by rw [Nat.add_assoc]; exact (hf _ (by simp at hj; omega)).1)
    have hout : ∀ j, (j < p ∨ p + m.length ≤ j) → (w.setCells g (off + p) (m.map u8v)).cell? ⟨g, off + j, none⟩ = w.cell? ⟨g, off + j, none⟩ := fun j hj =>
      World.cell?_setCells_out g _ _ w _ (fun _ _ => by simp; omega)
    refine ⟨w.setCells g (off + p) (m.map u8v), ?_, ⟨by simp, _, c, g, off, by rw [over_len hpm], by rw [over_len hpm]; exact hn, hc, hA0, hA, hb, fun j hj => ?_, fun j hj => ?_⟩, some g, gr_setCells g _ _ _, fun k hk => (by cases hk; exact blk_some_of (by omega)), fun k hk => .inl hk⟩
    · rw [hcut]
      simp [Builtin.copy_, run_underlying Tryz.underlying33, sizeOf, typeInfo, hi, hsize, Builtin.lenOf, hmin, hfc, hst, hgi]
    · rw [Nat.mul_one, over_len hpm] at hj
      rw [List.getElem?_map, over_at hpm]
      by_cases h1 : j < p ∨ p + m.length ≤ j
      · rw [hout j h1, hx j (by omega), List.getElem?_map]
        rcases h1 with h1 | h1
        · rw [if_pos h1]
        · rw [if_neg (by omega), if_neg (by omega)]
      · have := hin (j - p) (by simp; omega)
        rw [show off + p + (j - p) = off + j from by omega] at this
        rw [this, if_neg (by omega), if_pos (by omega), ← List.getElem?_map, List.getElem?_eq_getElem (by simp; omega)]
    · refine ⟨?_, by rw [World.frozen?_setCells]; exact (hf j hj).2⟩
      by_cases h1 : j < p ∨ p + m.length ≤ j
      · rw [hout j h1]; exact (hf j hj).1
      · have := hin (j - p) (by simp; omega)
        rw [show off + p + (j - p) = off + j from by omega] at this
        rw [this]; rfl

/-! what stays where a block stays -/
section
variable {w : World} {B : Nat}
theorem step_copyM {q : Oper} {a : Act} {K : Act → World → Prop} {Q : Exit → Act → World → Prop} (s0 x0 : Operand) (ho : q.op = .call { callee := .builtin .copy, args := #[s0, x0], argTypes := #[33, 33] })
    {v x : Value} {M : Int} {w' : World} (hs : a.eval s0 = v) (hx : a.eval x0 = x) (hrun : (Builtin.copy_ #[33, 33] q.type #[v, x]).run Tryz.prog w = .ok (.int .i64 M) w') (hK : K (a.put q.dst (.int .i64 M)) w') : q.wp Tryz.prog a w K Q := by
  unfold Oper.wp execOp
  simp only [ho, resolve, invoke, builtin, Sem.run_bind, Sem.run_pure, Result.andThen_ok, List.map_toArray, List.map_cons, List.map_nil, hs, hx, hrun]
  exact hK
theorem wp_appZc {ops : Array Oper} {rest : List Oper} {q : Oper} {a : Act} {Q : Exit → Act → World → Prop} (hgd : q.guard = none) (s0 x0 : Operand) (ho : q.op = .call { callee := .builtin .append, args := #[s0, x0], argTypes := #[33, 3] })
    {v : Value} {l : List UInt8} {m : Nat} (hs : a.eval s0 = v) (hx : a.eval x0 = .int .i64 (m : Int)) (hown : OwnB w B v l) (hm : l.length + m ≤ 70000000000000) (hB : B ≤ w.heap.size)
    (h : ∀ v' w', OwnB w' B v' (l ++ List.replicate m 0) → Ext0 w w' v v' → wpList Tryz.prog ops Q rest (a.put q.dst v') w') : wpList Tryz.prog ops Q (q :: rest) a w := by
  refine wpList_plain hgd fun K hK => ?_
  obtain ⟨v', w', hrun, h1, h2⟩ := run_appZ w q.type B v l hown m hm hB
  unfold Oper.wp execOp
  simp only [ho, resolve, invoke, builtin, Sem.run_bind, Sem.run_pure, Result.andThen_ok, List.map_toArray, List.map_cons, List.map_nil, hs, hx, hrun]
  exact hK _ _ (h v' w' h1 h2)
end
end Go.Proofs.YtkpmadahfmpeiaaGreat

/- disk.On: what its loops keep. -/
namespace Go.Proofs.YtkpmadahfmpeiaaGreat
open Go.RowKit Go.Maps
set_option maxRecDepth 100000
set_option maxHeartbeats 400000

theorem wp_fm_range2 {w : World} {m n : Nat} {dom : List UInt8 → Option Nat} {ops : Array Oper} {rest : List Oper} {o : Oper} {a : Act} {Q : Exit → Act → World → Prop} (hg : o.guard = none) (mm : Operand) (hop : o.op = .range 106 mm)
    (h : FM w m n dom) (hm : a.eval mm = .map (some m))
    (hK : ∀ w' left cnt, cnt ≤ n → FR w' m w.heap.size n dom left cnt → (∀ s b, dom s = some b → left s = true) → w.grownBy w' none → w'.heap.size = w.heap.size + 1 → wpList Tryz.prog ops Q rest (a.put o.dst (.pointer (some ⟨w.heap.size, 0, none⟩))) w') :
    wpList Tryz.prog ops Q (o :: rest) a w := by
  obtain ⟨D, h, h0, h1⟩ := h
  exact wpList_range_own w hg mm _ hop 9 122 Tryz.keyedS Tryz.underlying106 ptrElem m n D hm h
    fun w' r1 r2 r3 => hK w' (fun s => has D (.string s)) _ h.size_le ⟨D, _, r1, h0, h1, fun _ => rfl, fun _ e => e⟩ (fun s b e => (h1 s b e).2.1) r2 r3
/-- the list that Loose tells. -/
def LsIs (S : Dk) (ls : List Sec) : Prop := SecUp ls ∧ (∀ s k, okK s k → (S.loose s k = true ↔ ∃ p : UInt32, (⟨s, p⟩ : Sec) ∈ ls ∧ k = (p.toNat : Int))) ∧ ∀ x ∈ ls, okK x.name (x.page.toNat : Int)
def hasBut (S : Dk) (left : List UInt8 → Bool) : List UInt8 → Bool := fun x => S.has x && !left x
theorem hasBut_step {S : Dk} {left : List UInt8 → Bool} {s : List UInt8} (hs : S.has s = true) : (fun x => hasBut S left x || x == s) = hasBut S (fun x => left x && !(x == s)) := by
  funext x
  unfold hasBut
  by_cases e : x = s
  · subst e; simp [hs]
  · have : (x == s) = false := by simpa using e
    show ((S.has x && !left x) || x == s) = (S.has x && !(left x && !(x == s)))
    rw [this]; cases S.has x <;> cases left x <;> rfl
theorem OwnP.form {w : World} {B : Nat} {v : Value} {ls : List Sec} (h : OwnP w B v ls) : ∃ A c, v = .slice A ls.length c := by
  obtain ⟨_, A, c, _, _, e, _⟩ := h
  exact ⟨A, c, e⟩
theorem encs_at (l : List Sec) {k j : Nat} (hk : k < l.length) (hj : j < 2) : (l.flatMap Sec.enc)[k * 2 + j]? = (l[k].enc)[j]? := by
  induction l generalizing k with
  | nil => simp at hk
  | cons r l ih =>
    have hl : r.enc.length = 2 := rfl
    rw [List.flatMap_cons]
    cases k with
    | zero =>
      rw [List.getElem?_append_left (by omega)]
      simp
    | succ k =>
      rw [List.getElem?_append_right (by omega), hl, show (k + 1) * 2 + j - 2 = k * 2 + j from by omega]
      exact ih (by simpa using hk)
theorem OwnP.at_ {w : World} {B g off c : Nat} {ls : List Sec} (h : OwnP w B (.slice (some ⟨g, off, none⟩) ls.length c) ls) {k : Nat} (hk : k < ls.length) :
    w.cell? ⟨g, off + k * 2, none⟩ = some (.string ⟨ls[k].name.toArray⟩) ∧ w.cell? ⟨g, off + k * 2 + 1, none⟩ = some (.int .i64 (ls[k].page.toNat : Int)) := by
  obtain ⟨_, _, _, g', off', e, hn, hc, _, hA, _, hx, _⟩ := h
  cases e
  have := hA (by omega)
  cases this
  have h0 := hx (k * 2 + 0) (by omega)
  have h1 := hx (k * 2 + 1) (by omega)
  rw [encs_at ls hk (by omega)] at h0 h1
  exact ⟨h0, by rw [Nat.add_assoc]; exact h1⟩
theorem LI.off {w w' : World} {B m n : Nat} {has : List UInt8 → Bool} {val : List UInt8 → Value} {L : List UInt8 → List UInt8} {q : Nat → Option (List UInt8)} (h : LI w B m n has val L q) {r : Nat} (hg : w.grownBy w' (some r)) (hm : r ≠ m) (hq : q r = none) : LI w' B m n has val L q :=
  ⟨h.map.gr hg (fun e => hm (by cases e; rfl)), fun s hs => Own.off (h.own s hs) hg (fun k hk => by cases hk; exact fun hb => by have := h.tag s hs _ hb; rw [hq] at this; cases this), h.tag, fun i hi => ⟨(h.inb i hi).1, Nat.lt_of_lt_of_le (h.inb i hi).2.1 hg.size, (h.inb i hi).2.2⟩, h.mB⟩
theorem LI.cast {w : World} {B m n : Nat} {has has' : List UInt8 → Bool} {val : List UInt8 → Value} {L L' : List UInt8 → List UInt8} {q : Nat → Option (List UInt8)} (h : LI w B m n has val L q) (e1 : has = has') (e2 : L = L') : LI w B m n has' val L' q := by subst e1 e2; exact h
/-- the second loop: k of the loose sectors were looked at. -/
structure R2 (w : World) (S : Dk) (keep : List Int) (ls : List Sec) (vl : Value) (k : Nat) (wr : World) : Prop where
  ex : ∃ (n : Nat) (val : List UInt8 → Value) (q : Nat → Option (List UInt8)), LI wr w.heap.size w.heap.size n S.has val (onT S keep ls k) q ∧ (∀ b, blk vl = some b → q b = none ∧ b ≠ w.heap.size) ∧ n ≤ S.fs.length + k
  own : OwnP wr w.heap.size vl ls
  gr : w.grownBy wr none
theorem R2.ext {w wr w' : World} {S : Dk} {keep : List Int} {ls : List Sec} {vl : Value} {k : Nat} (h : R2 w S keep ls vl k wr) (hg : wr.grownBy w' none) : R2 w S keep ls vl k w' := by
  obtain ⟨⟨n, val, q, h1, h2, h3⟩, h4, h5⟩ := h
  exact ⟨⟨n, val, q, h1.ext hg, h2, h3⟩, Own.ext h4 hg, gr_trans h5 hg (.inl rfl)⟩
theorem onT_at {S : Dk} {keep : List Int} {ls : List Sec} {k : Nat} (hk : k < ls.length) : onT S keep ls (k + 1) = onS S keep k ls[k] (onT S keep ls k) := by
  show (match ls[k]? with | some x => onS S keep k x (onT S keep ls k) | none => onT S keep ls k) = _
  rw [List.getElem?_eq_getElem hk]
theorem R2.skip {w wr : World} {S : Dk} {keep : List Int} {ls : List Sec} {vl : Value} {k : Nat} (h : R2 w S keep ls vl k wr) (hk : k < ls.length) (hm : memI keep (k : Int) = false) : R2 w S keep ls vl (k + 1) wr := by
  obtain ⟨⟨n, val, q, h1, h2, h3⟩, h4, h5⟩ := h
  refine ⟨⟨n, val, q, h1.cast rfl ?_, h2, by omega⟩, h4, h5⟩
  rw [onT_at hk]
  unfold onS
  rw [if_neg (by unfold memI at hm; rw [hm]; simp)]
/-- one loose sector more stays: its file's slice in the map left is another one. -/
theorem R2.put {w wc w1 w2 w3 : World} {S : Dk} {keep : List Int} {ls : List Sec} {vl : Value} {k n : Nat} {val : List UInt8 → Value} {q : Nat → Option (List UInt8)}
    (h : LI wc w.heap.size w.heap.size n S.has val (onT S keep ls k) q) (hqv : ∀ b, blk vl = some b → q b = none ∧ b ≠ w.heap.size) (hn : n ≤ S.fs.length + k) (hown : OwnP wc w.heap.size vl ls) (hgr : w.grownBy wc none)
    (hk : k < ls.length) {s : List UInt8} {p : UInt32} (hx : ls[k] = ⟨s, p⟩) (hs : S.has s = true) (hsl : s.length ≤ maxLen) (hm : memI keep (k : Int) = true) {v0 v1 : Value} (hv0 : val s = v0) (x1 : Ext0 wc w1 v0 v1) (x2 : Ext0 w1 w2 v1 v1)
    (ho : OwnB w2 w.heap.size v1 (onB (S.nowOf s) (onT S keep ls k s) p.toNat)) (g3 : w2.grownBy w3 (some w.heap.size)) (hvm : VM strK w3 w.heap.size (n + 1) (fun z => if z = (⟨s, hsl⟩ : Nm) then some v1 else domL S.has val z)) :
    R2 w S keep ls vl (k + 1) w3 := by
  subst hv0
  obtain ⟨r1, a1, b1, c1⟩ := x1
  obtain ⟨r2, a2, b2, c2⟩ := x2
  have t1 : Tn q s wc w1 := Tn.of_gr a1 fun j e => .inl (h.tag s hs j (b1 j e))
  have hv1 : ∀ j, blk v1 = some j → q j = some s ∨ wc.heap.size ≤ j := fun j e => (c1 j e).imp (h.tag s hs j) id
  have t2 : Tn q s wc w2 := t1.more a2 fun j e => hv1 j (b2 j e)
  obtain ⟨q', h', hq'⟩ := h.turn t2 ho hv1 hsl g3 hvm
  have hz := t2.size
  have hnew : ∀ {j : Nat}, (q j = some s ∨ wc.heap.size ≤ j) → w.heap.size ≤ j := fun {j} e => by
    rcases e with e | e
    · exact (h.inb j (by rw [e]; simp)).1
    · have := hgr.size; omega
  refine ⟨⟨n + 1, _, q', h'.cast ?_ ?_, fun b hb => ?_, by omega⟩, ?_, ?_⟩
  · funext x
    by_cases e : x = s
    · subst e; simp [hs]
    · have : (x == s) = false := by simpa using e
      rw [this, Bool.or_false]
  · rw [onT_at hk, hx]
    unfold onS
    rw [if_pos (by unfold memI at hm; exact hm)]
  · have hb2 := hqv b hb
    have hlt := (Own.blk_lt hown (by omega) hb).2
    exact ⟨by rw [hq' b hlt]; exact hb2.1, hb2.2⟩
  · refine Own.off (Own.same hown fun b hb => ?_) g3 fun j e => by cases e; exact fun hb => (hqv _ hb).2 rfl
    refine t2.block b (Own.blk_lt hown (by omega) hb).2 fun e => ?_
    rw [(hqv b hb).1] at e; cases e
  · exact gr_trans (gr_trans (gr_trans hgr a1 (.inr fun j e => hnew (.inl (h.tag s hs j (b1 j e))))) a2 (.inr fun j e => hnew (hv1 j (b2 j e)))) g3 (.inr fun j e => by cases e; exact Nat.le_refl _)
/-- the map left itself, when one of its slices is written. -/
theorem LI.vm2 {wc w1 w2 : World} {m n : Nat} {hs : List UInt8 → Bool} {val : List UInt8 → Value} {L : List UInt8 → List UInt8} {q : Nat → Option (List UInt8)} {B : Nat} (h : LI wc B m n hs val L q) {s : List UInt8} (hs' : hs s = true) {v0 v1 : Value} (hv0 : val s = v0) (x1 : Ext0 wc w1 v0 v1) (x2 : Ext0 w1 w2 v1 v1) :
    VM strK w2 m n (domL hs val) := by
  subst hv0
  obtain ⟨r1, a1, b1, c1⟩ := x1
  obtain ⟨r2, a2, b2, c2⟩ := x2
  have hml := h.lt
  have ht : ∀ j, blk (val s) = some j → j ≠ m := fun j e => (h.inb j (by rw [h.tag s hs' j e]; simp)).2.2
  refine (h.map.gr a1 (fun e => ht m (b1 m e) rfl)).gr a2 fun e => ?_
  rcases c1 m (b2 m e) with h1 | h1
  · exact ht m h1 rfl
  · omega
/-- m[s] = &.., where there was one: the run. -/
theorem run_fm_reput {w : World} {m n : Nat} {dom : List UInt8 → Option Nat} (h : FM w m n dom) (hn : n < maxLen) {s : List UInt8} (hs : s.length ≤ maxLen) (hin : dom s ≠ none) (b : Nat) :
    ∃ w', (Instr.mapUpdate 106 (.map (some m)) (.string ⟨s.toArray⟩) (.pointer (some ⟨b, 0, none⟩))).run Tryz.prog w = .ok () w' ∧ FM w' m n (fun x => if x = s then some b else dom x) ∧ w.grownBy w' (some m) := by
  obtain ⟨D, h, h0, h1⟩ := h
  obtain ⟨w', hrun, h', g'⟩ := h.update Tryz.keyedS Tryz.underlying106 hn (keyS hs) (show ptrElem (.pointer (some ⟨b, 0, none⟩)) = some (.lit (.int .i64 b), []) from rfl)
  refine ⟨w', hrun, ?_, g'⟩
  obtain ⟨b0, hb0⟩ := Option.ne_none_iff_exists'.1 hin
  have hsz := size_put_le (x := (.lit (.int .i64 b) : Dt)) (FM.isMap h) (h1 s b0 hb0).2.1
  have hle := h.size_le
  obtain ⟨es, clock, q1, q2, q3, q4⟩ := h'
  have hes : es.size ≤ n := by
    have : Maps.size (D.put (.string s) (.lit (.int .i64 b))) = es.size := by rw [q4]; simp [Maps.size, Go.length_sorted]
    omega
  obtain ⟨D2, j1, j2, j3⟩ := FM.of_put (FM.isMap h) h0 h1 hs b (⟨es, clock, q1, q2, Nat.le_trans hes (Nat.le_succ n), q4⟩ : w'.ownsMap Tryz.prog 9 ptrElem m (n + 1) (D.put (.string s) (.lit (.int .i64 b))))
  obtain ⟨es2, clock2, p1, p2, p3, p4⟩ := j1
  have : es2 = es := by rw [q1] at p1; cases p1; rfl
  subst this
  exact ⟨D2, ⟨es2, clock2, p1, p2, hes, p4⟩, j2, j3⟩
/-- the third loop: which files of the map left are still to come. -/
structure R3 (w : World) (S : Dk) (c : Con) (T : List UInt8 → List UInt8) (val : List UInt8 → Value) (r : Nat) (left : Nm → Bool) (wr : World) : Prop where
  ex : ∃ (c3 : Con) (o3 : Own1) (done : List UInt8 → Bool), Bx wr w.heap.size c3 S T done o3 ∧ (c3.nv = val ∧ c3.mb = c.mb ∧ c3.lb = c.lb) ∧ o3 r = none ∧ ∀ f ∈ S.fs, ∀ hl : f.name.length ≤ maxLen, left ⟨f.name, hl⟩ = false → done f.name = true
  gr : w.grownBy wr (some c.mb)
theorem R3.off {w wr w' : World} {S : Dk} {c : Con} {T : List UInt8 → List UInt8} {val : List UInt8 → Value} {r : Nat} {left : Nm → Bool} (h : R3 w S c T val r left wr) (hg : wr.grownBy w' (some r)) (hr : w.heap.size ≤ r) (hm : r ≠ c.mb) : R3 w S c T val r left w' := by
  obtain ⟨⟨c3, o3, done, h1, h2, h3, h4⟩, h5⟩ := h
  exact ⟨⟨c3, o3, done, h1.off hg h3 (by rw [h2.2.1]; exact hm), h2, h3, h4⟩, gr_trans h5 hg (.inr fun j e => by cases e; exact hr)⟩
/-- a file that came is stored. -/
theorem R3.step {w wr w3 w4 : World} {S : Dk} {c c3 : Con} {o3 : Own1} {done : List UInt8 → Bool} {T : List UInt8 → List UInt8} {val : List UInt8 → Value} {r : Nat} {left : Nm → Bool} (hbx : Bx wr w.heap.size c3 S T done o3) (he : c3.nv = val ∧ c3.mb = c.mb ∧ c3.lb = c.lb) (hor : o3 r = none)
    (hdn : ∀ f ∈ S.fs, ∀ hl : f.name.length ≤ maxLen, left ⟨f.name, hl⟩ = false → done f.name = true) (hgr : w.grownBy wr (some c.mb)) (hrl : r < wr.heap.size) (hn : (S.fs.map Fi.name).Nodup) {f : Fi} (hf : f ∈ S.fs) (g3 : wr.grownBy w3 none) {k : Nat} {v : Value} (hk : wr.heap.size ≤ k) (hv : OwnB w3 wr.heap.size v (T f.name)) (hne : blk v ≠ some k)
    (hb : Blk w3 k 126 #[val f.name, v]) (g4 : w3.grownBy w4 (some c.mb)) (hm : FM w4 c.mb S.fs.length (fun x => if x = f.name then some k else domOf S.fs c3.fb x)) :
    R3 w S c T val r (fun y => left y && !(y.1 == f.name)) w4 := by
  obtain ⟨rfl, e2, e3⟩ := he
  obtain ⟨o', h1, h2⟩ := hbx.step hn hgr.size hf g3 hk hv hne hb (by rw [e2]; exact g4) (by rw [e2]; exact hm)
  refine ⟨⟨_, o', _, h1, ⟨rfl, e2, e3⟩, by rw [h2 r hrl]; exact hor, fun g hg hl hlt => ?_⟩, gr_trans (gr_none hgr g3) g4 (.inl rfl)⟩
  show (done g.name || g.name == f.name) = true
  by_cases e : g.name = f.name
  · simp [e]
  · have : (g.name == f.name) = false := by simpa using e
    have hlt' : (left ⟨g.name, hl⟩ && !(g.name == f.name)) = false := hlt
    rw [this] at hlt'
    rw [hdn g hg hl (by simpa using hlt')]; rfl
theorem domL_inv {has : List UInt8 → Bool} {val : List UInt8 → Value} {x : Nm} {u : Value} (h : domL has val x = some u) : has x.1 = true ∧ u = val x.1 := by
  unfold domL at h
  by_cases e : has x.1 = true
  · rw [if_pos e] at h; cases h; exact ⟨e, rfl⟩
  · rw [if_neg e] at h; cases h
theorem has_inv {S : Dk} {s : List UInt8} (h : S.has s = true) : ∃ f ∈ S.fs, f.name = s := by
  unfold Dk.has at h
  obtain ⟨f, hf⟩ := Option.isSome_iff_exists.1 h
  exact ⟨f, (find_some hf).1, (find_some hf).2⟩
section
variable {w : World} {B d : Nat} {o : Own1} {S : Dk} {c : Con}
def OnOut (o : Own1) (w : World) (B d : Nat) (S : Dk) (keep : List Int) (e : Ending) (w' : World) : Prop :=
  e = .returned (.int .i64 0) ∧ ∃ ls, LsIs S ls ∧ DOut o w B d (S.lit (onT S keep ls ls.length)) w'
theorem looseOk (h : DI w B o d S c) (hli : LooseIn S) : LooseOk S := fun s k _ hl => by
  obtain ⟨f, hf, h0, h1⟩ := hli s k hl
  have := (h.file f (find_some hf).1).small.2.1
  omega
theorem onT_small (h : DI w B o d S c) (hli : LooseIn S) {ls : List Sec} (hl : LsIs S ls) (keep : List Int) (k : Nat) (s : List UInt8) : (onT S keep ls k s).length ≤ 16777216 := by
  refine onT_len (fun s => ?_) (fun s => ?_) (fun x hx => ?_) k s
  · unfold Dk.lastsOf
    cases hf : S.find s with
    | none => simp
    | some f => exact (h.file f (find_some hf).1).small.2.2
  · unfold Dk.nowOf
    cases hf : S.find s with
    | none => simp
    | some f => exact (h.file f (find_some hf).1).small.2.1
  · obtain ⟨s, p⟩ := x
    obtain ⟨f, h1, h2, h3⟩ := hli s _ ((hl.2.1 s _ (hl.2.2 _ hx)).2 ⟨p, hx, rfl⟩)
    rw [nowOf_some h1]
    omega
end
end Go.Proofs.YtkpmadahfmpeiaaGreat
