/-
  disk.Loose: the order of sectors in the program, and the range over the loose ones.
-/
import Derived.Test.YtipankjajdpiiaaGreatSec
import Derived.Test.YtipankjajdpiiaaGreatDw1
import Derived.Sort.Grow
import Derived.Test.YtipankjajdpiiaaGreatRg
namespace Go.Proofs.YtipankjajdpiiaaGreat
open Go.RowKit Go.Maps Go.Sort
set_option maxRecDepth 100000
set_option maxHeartbeats 400000

theorem strB_eq (x y : List UInt8) : ((⟨x.toArray⟩ : ByteArray).toList == (⟨y.toArray⟩ : ByteArray).toList) = (x == y) := by simp
/-- the order, as the program has it. -/
theorem secCmp_any (x y : Sec) (W : World) : Calls Tryz.prog 109 #[.agg x.enc.toArray, .agg y.enc.toArray] W fun e w' => e = .returned (.int .i64 (secC x y)) ∧ ∃ q os', w' = grow (W.drewN q) os' := by
  obtain ⟨a, p⟩ := x
  obtain ⟨b, q⟩ := y
  have hp := p.toNat_lt
  have hq := q.toNat_lt
  unfold Sec.enc secC
  by_cases h1 : bl a b = true
  · rw [if_pos h1]
    have h1' : Op.bytesLess a b = true := h1
    clear h1
    go_enter Tryz.func109, Tryz.ntmps109
    go_wp2
    go_ret
    exact ⟨rfl, 0, _, by rw [alloc_eq_grow, alloc_eq_grow, grow_grow]; rfl⟩
  · have h1' : Op.bytesLess a b = false := by simpa using h1
    rw [if_neg h1]
    by_cases h2 : bl b a = true
    · rw [if_pos h2]
      have hne : (a == b) = false := by
        rw [beq_eq_false_iff_ne]
        intro e
        rw [e, bl_irrefl] at h2; cases h2
      clear h1 h2
      go_enter Tryz.func109, Tryz.ntmps109
      go_wp2
      go_ret
      exact ⟨rfl, 0, _, by rw [alloc_eq_grow, alloc_eq_grow, grow_grow]; rfl⟩
    · rw [if_neg h2]
      have e := bl_tri _ _ h1' (by simpa using h2)
      subst e
      have hne : (a == a) = true := by simp
      have hp1 : (p.toNat : Int) < 4294967296 := by omega
      have hq1 : (q.toNat : Int) < 4294967296 := by omega
      clear h1 h2
      go_enter Tryz.func109, Tryz.ntmps109
      go_wp2
      go_ret
      exact ⟨rfl, 0, _, by rw [alloc_eq_grow, alloc_eq_grow, grow_grow]; rfl⟩
section
variable {w w' : World} {m n r cnt : Nat} {L left : List UInt8 → Int → Bool}
/-- range m, with how many there are at most. -/
theorem wp_lm_range2 {ops : Array Oper} {rest : List Oper} {o : Oper} {a : Act} {Q : Exit → Act → World → Prop} (hg : o.guard = none) (mm : Operand) (hop : o.op = .range 72 mm)
    (h : LM w m n L) (hm : a.eval mm = .map (some m))
    (hK : ∀ w' cnt, cnt ≤ n → LR w' m w.heap.size n L L cnt → w.grownBy w' none → w'.heap.size = w.heap.size + 1 → wpList Tryz.prog ops Q rest (a.put o.dst (.pointer (some ⟨w.heap.size, 0, none⟩))) w') :
    wpList Tryz.prog ops Q (o :: rest) a w := by
  obtain ⟨D, h, h0⟩ := h
  exact wpList_range_own w hg mm _ hop 137 4 Tryz.keyedK Tryz.underlying72 _ m n D hm h fun w' r1 r2 r3 => hK w' _ h.size_le ⟨D, _, r1, h0, h0⟩ r2 r3
end
def OwnP (w : World) (B : Nat) (v : Value) (l : List Sec) : Prop := Go.Proofs.YtipankjajdpiiaaGreat.Own w B 2 v l.length (l.flatMap Sec.enc)
theorem Tryz.infoPl : (Tryz.prog.info? 130).map (fun i => (i.zero, i.size, i.bytes)) = some (some (.agg #[.string ⟨#[]⟩, .int .i64 0]), 2, 24) := by kernel_rfl
/-- append(v, x) of a sector. -/
theorem wp_app1P {ops : Array Oper} {rest : List Oper} {o : Oper} {a : Act} {Q : Exit → Act → World → Prop} {w : World} (x : Sec) (hgd : o.guard = none) (s0 x0 : Operand)
    (ho : o.op = .call { callee := .builtin .append, args := #[s0, x0], argTypes := #[127, 127] }) {B : Nat} {v : Value} {l : List Sec} (hs : a.eval s0 = v) (hown : OwnP w B v l)
    (hx : a.eval x0 = .slice (some ⟨w.heap.size, 0, none⟩) 1 1) (hn : l.length ≤ 1000000000) (hB : B ≤ w.heap.size)
    (h : ∀ v' w', OwnP w' B v' (l ++ [x]) → w.grownBy w' v.ownBlock → (v'.ownBlock = v.ownBlock ∨ ∃ k, v'.ownBlock = some k ∧ w.heap.size ≤ k) → wpList Tryz.prog ops Q rest (a.put o.dst v') w') :
    wpList Tryz.prog ops Q (o :: rest) a (w.alloc (.cells x.enc.toArray 130)) := by
  refine wp_app1 w x.enc.toArray hgd s0 x0 _ ho B 130 _ 2 24 Tryz.underlying127 Tryz.infoPl rfl (by omega) v _ _ hs hown hx rfl (by intro u hu; simp [Sec.enc] at hu; rcases hu with rfl | rfl <;> rfl) (by unfold maxLen; omega) (by omega) hB
    fun v' w' h1 h2 h3 => h v' w' ?_ h2 h3
  unfold OwnP
  rw [List.length_append, List.flatMap_append]
  simpa using h1
end Go.Proofs.YtipankjajdpiiaaGreat

/- disk.Loose. -/
namespace Go.Proofs.YtipankjajdpiiaaGreat
open Go.RowKit Go.Maps
set_option maxRecDepth 100000
set_option maxHeartbeats 400000

/-- what slices.SortFunc does with sectors. -/
def SortsP : Prop := ∀ (wx : World) (B : Nat) (v : Value) (l : List Sec), OwnP wx B v l → l.length ≤ 1000000000 →
  Calls Tryz.prog 108 #[v, .func (.func 109) #[] #[]] wx fun e w' =>
    e = .returned (.tuple #[]) ∧ ∃ l', l'.Perm l ∧ (l.Nodup → SecUp l') ∧ OwnP w' B v l' ∧ wx.grownBy w' v.ownBlock
/-- loose sectors have small numbers. -/
def LooseOk (S : Dk) : Prop := ∀ s k, okK s k → S.loose s k = true → 0 ≤ k ∧ k < 4294967296
/-- the list has what is loose and no longer to come. -/
def LsOf (lo left : List UInt8 → Int → Bool) (l : List Sec) : Prop := l.Nodup ∧ (∀ s k, okK s k → ((lo s k = true ∧ left s k = false) ↔ ∃ p : UInt32, (⟨s, p⟩ : Sec) ∈ l ∧ k = (p.toNat : Int))) ∧ (∀ x ∈ l, okK x.name (x.page.toNat : Int)) ∧ ∀ s k, okK s k → left s k = true → lo s k = true
theorem LsOf.start (lo : List UInt8 → Int → Bool) : LsOf lo lo [] := ⟨List.nodup_nil, fun s k _ => ⟨(fun h => by have h1 := h.1; rw [h.2] at h1; cases h1), (fun ⟨p, h, _⟩ => by cases h)⟩, (fun x h => by cases h), fun _ _ _ h => h⟩
theorem LsOf.step {lo left : List UInt8 → Int → Bool} {l : List Sec} (h : LsOf lo left l) {s : List UInt8} {k : Int} (hk : okK s k) (hl : left s k = true) (hlo : lo s k = true) {p : UInt32} (hp : k = (p.toNat : Int)) : LsOf lo (noK left s k) (l ++ [⟨s, p⟩]) := by
  have hnot : (⟨s, p⟩ : Sec) ∉ l := fun hm => by
    have := (h.2.1 s k hk).2 ⟨p, hm, hp⟩
    rw [hl] at this; cases this.2
  refine ⟨?_, fun y j hy => ?_, fun x hx => ?_, fun y j hy h1 => h.2.2.2 y j hy (by unfold noK at h1; simp at h1; exact h1.1)⟩
  · rw [List.nodup_append]
    exact ⟨h.1, by simp, fun a ha b hb => by rw [List.mem_singleton.1 hb]; exact fun e => hnot (e ▸ ha)⟩
  · constructor
    · rintro ⟨h1, h2⟩
      by_cases e : y = s ∧ j = k
      · obtain ⟨rfl, rfl⟩ := e
        exact ⟨p, by simp, hp⟩
      · have hf : (y == s && j == k) = false := by
          rw [Bool.eq_false_iff]
          intro h
          simp only [Bool.and_eq_true, beq_iff_eq] at h
          exact e h
        have h3 : left y j = false := by
          unfold noK at h2
          rw [hf] at h2
          simpa using h2
        obtain ⟨q, hq, e⟩ := (h.2.1 y j hy).1 ⟨h1, h3⟩
        exact ⟨q, List.mem_append_left _ hq, e⟩
    · rintro ⟨q, hq, e⟩
      rcases List.mem_append.1 hq with hq | hq
      · obtain ⟨h1, h2⟩ := (h.2.1 y j hy).2 ⟨q, hq, e⟩
        exact ⟨h1, by unfold noK; rw [h2]; rfl⟩
      · have := List.mem_singleton.1 hq
        obtain ⟨rfl, rfl⟩ : y = s ∧ q = p := by cases this; exact ⟨rfl, rfl⟩
        rw [← hp] at e
        subst e
        exact ⟨hlo, by unfold noK; simp⟩
  · rcases List.mem_append.1 hx with hx | hx
    · exact h.2.2.1 x hx
    · rw [List.mem_singleton.1 hx]; rw [hp] at hk; exact hk
section
variable {w : World} {B d : Nat} {o : Own1} {S : Dk} {c : Con}
def LooseOut (w : World) (S : Dk) (e : Ending) (w' : World) : Prop :=
  ∃ v l, e = .returned v ∧ OwnP w' w.heap.size v l ∧ SecUp l ∧ (∀ s k, okK s k → (S.loose s k = true ↔ ∃ p : UInt32, (⟨s, p⟩ : Sec) ∈ l ∧ k = (p.toNat : Int))) ∧ (∀ x ∈ l, okK x.name (x.page.toNat : Int)) ∧ l.length ≤ S.nl ∧ w.grownBy w' none
set_option maxHeartbeats 2000000 in
theorem loose_any (hsort : SortsP) (h : DI w B o d S c) (hok : LooseOk S) (hnl : S.nl ≤ 1000000000) :
    Calls Tryz.prog 71 #[.pointer (some ⟨d, 0, none⟩)] w (LooseOut w S) := by
  have hc := h.self.cell 1
  have hlm := h.lm
  unfold selfC at hc
  have hc1 : w.cell? ⟨d, 1, none⟩ = some (.map (some c.lb)) := hc
  have HS := Lib.hid hsort
  have HOK := Lib.hid hok
  have hlb : c.lb < w.heap.size := hlm.lt
  clear h hc hsort hok
  go_enter Tryz.func71, Tryz.ntmps71
  go_wp2_with (at_range; refine wp_lm_range2 rfl _ rfl hlm rfl ?_; intro w0 cnt hcnt hlr g0 hz0)
  go_frame
  clear hlm
  have HLR := Lib.hid hlr
  have G0 := Lib.hid g0
  clear hlr g0
  go_loopw [3, 4] (fun v _ wr => ∃ (left : List UInt8 → Int → Bool) (cnt : Nat) (l : List Sec), LR wr c.lb w.heap.size S.nl S.loose left cnt ∧ OwnP wr (w.heap.size + 1) v l ∧ Hid (LsOf S.loose left l) ∧ l.length + cnt ≤ S.nl ∧ w.grownBy wr none ∧ w.heap.size + 1 ≤ wr.heap.size) (fun _ _ wr => wr.rangeLeft c.lb w.heap.size)
  case atStart => exact ⟨_, _, [], HLR.out, Own.nil _ _ _, LsOf.start _, by simpa using hcnt, G0.out, by omega⟩
  case round =>
    obtain ⟨left, cnt2, l, hlr, hown, hls, hln, hgr, hsz⟩ := hrel
    have hleft := hlr.left_eq
    have HL0 := Lib.hid hleft
    have HR := Lib.hid hgr
    have HO := Lib.hid hown
    clear hleft hgr hown
    go_wp2_with (at_next; refine wp_lm_next rfl _ rfl hlr rfl ?_ ?_)
    · intro h0 hl0
      have HEND : Hid (∀ s k, okK s k → (S.loose s k = true ↔ ∃ p : UInt32, (⟨s, p⟩ : Sec) ∈ l ∧ k = (p.toNat : Int))) := fun s k hk => by
        rw [← hls.out.2.1 s k hk, hl0 s k hk]; simp
      have HSP := Lib.hid (HS.out wr _ _ l HO.out (by omega))
      have HND := Lib.hid hls.out.1
      have HKK := Lib.hid hls.out.2.2.1
      clear hl0 hlr hls
      go_wp2_with fail
      refine HSP.out.mono ?_
      rintro e w5 ⟨rfl, l', hpm, hup, ho5, g5⟩
      have HPM := Lib.hid hpm
      have HUP := Lib.hid (hup HND.out)
      have HO5 := Lib.hid ho5
      have HG5 : Hid (w.grownBy w5 none) := gr_trans HR.out g5 (.inr fun k e => by have := HO.out.lt k e; omega)
      clear hpm hup ho5 g5
      go_wp2
      go_ret
      refine ⟨_, l', rfl, HO5.out.mono (by omega), HUP.out, fun s k hk => ?_, fun x hx => HKK.out x (HPM.out.mem_iff.1 hx), by have := HPM.out.length_eq; omega, HG5.out⟩
      rw [HEND.out s k hk]
      constructor
      · rintro ⟨p, hp, e⟩; exact ⟨p, HPM.out.mem_iff.2 hp, e⟩
      · rintro ⟨p, hp, e⟩; exact ⟨p, HPM.out.mem_iff.1 hp, e⟩
    · intro s k w2 cnt3 hok hls2 hlr2 hlt2 g2 hz2 hen v2
      obtain ⟨b2, hb2⟩ : ∃ b2, (Instr.entry (.pointer (some ⟨w.heap.size, 0, none⟩))).run Tryz.prog w2 = .ok (.tuple #[.agg #[.string ⟨s.toArray⟩, .int .i64 k], .bool b2]) w2 := by rcases hen with e | e; exact ⟨_, e⟩; exact ⟨_, e⟩
      have hlo : S.loose s k = true := hls.out.2.2.2 s k hok hls2
      obtain ⟨h0k, h1k⟩ := HOK.out s k hok hlo
      obtain ⟨p, rfl⟩ : ∃ p : UInt32, k = (p.toNat : Int) := ⟨UInt32.ofNat k.toNat, by rw [UInt32.toNat_ofNat_of_lt' (by show _ < 4294967296; omega)]; omega⟩
      have HLS := Lib.hid (hls.out.step hok hls2 hlo rfl)
      have HLR2 := Lib.hid hlr2
      have HG2 : Hid (w.grownBy w2 none) := gr_trans HR.out g2 (.inr fun q e => by cases e; exact Nat.le_refl _)
      have HO2 : Hid (OwnP w2 (w.heap.size + 1) _ l) := Own.gr HO.out g2 (fun k e => by cases e; intro h; have := HO.out.lt _ h; omega)
      have hz2' : w.heap.size + 1 ≤ w2.heap.size := by omega
      clear hlr hen hlr2 g2 hls2 hls hlo h0k h1k hok hz2
      have HA : Hid (OwnP (w2.alloc (.cells #[.string ⟨s.toArray⟩, .int .i64 (p.toNat : Int)] 137)) (w.heap.size + 1) _ l) := Own.alloc HO2.out _
      have hll : l.length ≤ 1000000000 := by omega
      have hBB : w.heap.size + 1 ≤ (w2.alloc (.cells #[.string ⟨s.toArray⟩, .int .i64 (p.toNat : Int)] 137)).heap.size := by simp; omega
      have hxx : ∀ n : Nat, Value.slice (some ⟨w2.heap.size + 1, 0, none⟩) 1 1 = Value.slice (some ⟨(w2.alloc (.cells #[.string ⟨s.toArray⟩, .int .i64 (p.toNat : Int)] 137)).heap.size, 0, none⟩) 1 1 := fun _ => by simp
      go_wp2_with (at_builtin; refine wp_app1P (w := w2.alloc (.cells #[.string ⟨s.toArray⟩, .int .i64 (p.toNat : Int)] 137)) ⟨s, p⟩ rfl (.tmp 16) (.tmp 22) rfl rfl HA.out (hxx 0) hll hBB ?_; rintro v3 w3 o3 g3 -)
      have gv : w2.grownBy w3 u3.ownBlock := gr_trans (gr_alloc _ _ _) g3 (.inl rfl)
      have hb3 : ∀ j, u3.ownBlock = some j → w.heap.size + 1 ≤ j := HO2.out.lt
      have hl3 := HLR2.out.gr gv (fun e => by have := hb3 _ e; omega) (fun e => by have := hb3 _ e; omega)
      have hg3 : w.grownBy w3 none := gr_trans HG2.out gv (.inr fun j e => by have := hb3 _ e; omega)
      refine ⟨⟨_, _, _, hl3, o3, HLS.out, by rw [List.length_append]; simp; omega, hg3, by have := gv.size; omega⟩, ?_⟩
      rw [hl3.left_eq, HL0.out]
      exact hlt2
end
end Go.Proofs.YtipankjajdpiiaaGreat
