/-
  The edges of a map, one by one (maps.Values), in whatever order.
-/
import Derived.Test.YthckjpcknmmagaaDoorIsort
import Derived.RangeFuncNested
import Derived.RangeFuncBound
import Derived.RangeFuncCalls
import Derived.RangeFuncLeaves
import Derived.RangeFuncFrom
import Derived.Shelf.Abstract
import Derived.Shelf.AbstractIn
import Derived.Shelf.RegionOpen
import Derived.OwnWalkIn
import Derived.TacticsInMore
import Derived.LoopNIn
import Derived.LoopIn
import Derived.Sort.MapsRangeIn
namespace Go.Proofs.YthckjpcknmmagaaDoor
open Go.RowKit Go.Shelf Go.Maps
set_option maxRecDepth 100000
set_option maxHeartbeats 400000
attribute [local go_sem] Oper.semAt_some

section
variable {P : Program} {k : TypeId} {κ : Type} {J : KeyK P k κ} {w w' : World} {m n : Nat} {dom : κ → Option Value} {F : Fence} {fn : Nat}
theorem VR.of_walks {r cnt : Nat} {left : κ → Bool} (h : VR J w m r n dom left cnt) (hk : KeepsWalks w w') : VR J w' m r n dom left cnt := by
  obtain ⟨D, lf, h, h2⟩ := h
  exact ⟨D, lf, h.of_walks hk, h2⟩
theorem VR.iter_walk {r cnt : Nat} {left : κ → Bool} (h : VR J w m r n dom left cnt) : ∃ o : Obj, w.heap[r]? = some o ∧ o.isWalk = true := by
  obtain ⟨D, lf, h, h2⟩ := h
  exact h.iter_walk
/-- range m, inside a fence. -/
theorem wpi_vm_range {ops : Array Oper} {rest : List Oper} {o : Oper} {a : Act} {Q : Exit → Act → World → Prop} (hg : o.guard = none) {t e : TypeId} (mm : Operand) (hop : o.op = .range t mm)
    (ht : P.underlying t = some (.map k e)) (h : VM J w m n dom) (hm : a.eval mm = .map (some m))
    (hK : ∀ w' cnt, cnt ≤ n → VR J w' m w.heap.size n dom (fun x => (dom x).isSome) cnt → w.grownBy w' none → w'.heap.size = w.heap.size + 1 → wpListIn F fn P ops Q rest (a.put o.dst (.pointer (some ⟨w.heap.size, 0, none⟩))) w') :
    wpListIn F fn P ops Q (o :: rest) a w := by
  obtain ⟨D, h, h0⟩ := h
  exact wpListIn_range_own w hg mm _ hop k e J.keyed ht rV m n D hm h
    fun w' r1 r2 r3 => hK w' _ h.size_le ⟨D, _, r1, h0, fun x => by
      cases hd : dom x with
      | none => show _ = (dom x).isSome; rw [hd]; exact (h0 x).1 hd
      | some b => show _ = (dom x).isSome; rw [hd]; exact ((h0 x).2 b hd).1, fun _ e => e⟩ r2 r3
/-- the step, inside a fence. -/
theorem wpi_vm_next [BEq κ] [LawfulBEq κ] {ops : Array Oper} {rest : List Oper} {o : Oper} {a : Act} {Q : Exit → Act → World → Prop} (hg : o.guard = none) (it : Operand) (hop : o.op = .next it false)
    {r cnt : Nat} {left : κ → Bool} (h : VR J w m r n dom left cnt) (hit : a.eval it = .pointer (some ⟨r, 0, none⟩))
    (hDone : cnt = 0 → (∀ x, left x = false) → wpListIn F fn P ops Q rest (a.put o.dst (.tuple #[.bool false])) w)
    (hMore : ∀ (x : κ) (u : Value) (w' : World) (cnt' : Nat), left x = true → dom x = some u → VR J w' m r n dom (fun y => left y && !(y == x)) cnt' → cnt' < cnt → w.grownBy w' (some r) → w'.heap.size = w.heap.size →
      (Instr.entry (.pointer (some ⟨r, 0, none⟩))).run P w' = .ok (.tuple #[J.kv x, u]) w' → wpListIn F fn P ops Q rest (a.put o.dst (.tuple #[.bool true, J.kv x, u])) w') :
    wpListIn F fn P ops Q (o :: rest) a w := by
  obtain ⟨D, lf, h, h0, h2, h3⟩ := h
  refine wpListIn_plain hg fun K' hK' => ?_
  unfold Oper.wpIn
  refine ⟨by simp [Oper.about, hop], ?_⟩
  rw [Oper.semAt_plain F _ _ (by rw [hop]; intro c hc'; cases hc')]
  rcases h.next J.keyed o.type with ⟨hc, hl, hrun⟩ | ⟨key, v, kl, y, w', cnt', hkey, hlk, hv, hat, hrun, hrg, hlt, hgr, hsz, hen⟩
  · simp [execOp, hop, hit, hrun, Result.andThen]
    exact hK' _ _ (hDone hc fun s => by rw [← h2]; exact hl _)
  · obtain ⟨s, rfl, rfl⟩ := J.inv _ _ hkey
    have hls : left s = true := by rw [← h2]; exact hlk
    cases hd : dom s with
    | none => have := h3 _ hlk; rw [(h0 s).1 hd] at this; cases this
    | some b =>
      have hy := hat .nil
      rw [((h0 s).2 b hd).2] at hy
      obtain ⟨y1, y2⟩ := y
      simp only at hy
      subst hy
      obtain rfl := rV_inv hv
      simp [execOp, hop, hit, hrun, Result.andThen]
      refine hK' _ _ (hMore s v w' cnt' hls hd ⟨D, _, hrg, h0, fun x => ?_, fun kl hk => ?_⟩ hlt hgr hsz hen)
      · show (lf (J.kl x) && !(J.kl x).sameKey (J.kl s)) = (left x && !(x == s))
        rw [h2]
        congr 2
        by_cases e : x = s
        · subst e
          rw [WideAt.sameKey_self (J.isK x)]
          simp
        · rw [sameKey_ne (fun he => e (J.inj _ _ he))]
          symm
          simpa using e
      · exact h3 kl (by simp at hk; exact hk.1)
end
end Go.Proofs.YthckjpcknmmagaaDoor
namespace Go.Proofs.YthckjpcknmmagaaDoor.R
open Go.RowKit Go.Shelf Go.Maps
attribute [local go_sem] Oper.semAt_some
noncomputable def jP : KeyK Tryd.prog 38 Pr := prK Tryd.prog 38 26 Tryd.underlying38 Tryd.underlying26 (by kernel_rfl) (by kernel_rfl) (by kernel_rfl) (Nat.le_of_ble_eq_true (by kernel_rfl)) (Nat.le_of_ble_eq_true (by kernel_rfl)) (by kernel_rfl)
theorem jP_kv (x : Pr) : jP.kv x = .agg #[.int .u32 x.a.toNat, .int .u32 x.b.toNat] := rfl
def domE (best : Pr → Option Ed) : Pr → Option Value := fun h => (best h).map Ed.v
structure PutE (w : World) (bp m n : Nat) (best : Pr → Option Ed) : Prop where
  box : Blk w bp 37 #[.map (some m)]
  vm : VM jP w m n (domE best)
theorem PutE.ext {w w' : World} {bp m n : Nat} {best : Pr → Option Ed} (h : PutE w bp m n best) (hg : w.grownBy w' none) : PutE w' bp m n best := ⟨h.box.ext hg, h.vm.ext hg⟩
/-- what has come of the best ones. -/
structure ColE (best : Pr → Option Ed) (left : Pr → Bool) (ss : List Ed) : Prop where
  nd : (ss.map Ed.k).Nodup
  mem : ∀ x, x ∈ ss ↔ best x.k = some x ∧ left x.k = false
  sub : ∀ h, left h = true → (best h).isSome = true
theorem ColE.start (best : Pr → Option Ed) : ColE best (fun x => (domE best x).isSome) [] where
  nd := List.nodup_nil
  mem x := ⟨fun h => (by cases h), fun ⟨h1, h2⟩ => (by simp [domE, h1] at h2)⟩
  sub h hh := by simpa [domE] using hh
theorem ColE.step {best : Pr → Option Ed} {left : Pr → Bool} {ss : List Ed} (h : ColE best left ss) (hat : AtPr best) {k : Pr} {y : Ed} (hb : best k = some y) (hl : left k = true) : ColE best (fun z => left z && !(z == k)) (ss ++ [y]) := by
  have hyk := hat k y hb
  have hnot : ∀ z ∈ ss, z.k ≠ k := fun z hz e => by
    have := (h.mem z).1 hz
    rw [e, hl] at this
    cases this.2
  refine ⟨?_, fun x => ?_, fun z hz => h.sub z (by simp at hz; exact hz.1)⟩
  · rw [List.map_append, List.nodup_append]
    refine ⟨h.nd, by simp, fun a ha b hb2 e => ?_⟩
    obtain ⟨z, hz, rfl⟩ := List.mem_map.1 ha
    simp at hb2
    exact hnot z hz (by rw [e, hb2, hyk])
  · rw [List.mem_append, h.mem]
    constructor
    · rintro (⟨h1, h2⟩ | h1)
      · exact ⟨h1, by simp [h2]⟩
      · obtain rfl := List.mem_singleton.1 h1
        rw [hyk]
        exact ⟨hb, by simp⟩
    · rintro ⟨h1, h2⟩
      by_cases e : x.k = k
      · right
        rw [e, hb] at h1
        rw [Option.some.inj h1]; simp
      · left
        refine ⟨h1, ?_⟩
        simpa [e] using h2
def ValsOf (best : Pr → Option Ed) (ss : List Ed) : Prop := (ss.map Ed.k).Nodup ∧ ∀ x, x ∈ ss ↔ best x.k = some x
theorem ColE.done {best : Pr → Option Ed} {left : Pr → Bool} {ss : List Ed} (h : ColE best left ss) (hl : ∀ x, left x = false) : ValsOf best ss :=
  ⟨h.nd, fun x => by rw [h.mem]; simp [hl]⟩
set_option maxHeartbeats 2000000 in
theorem vals1_in (n : Nat) (hn : 1 ≤ n) (l bx m nn : Nat) (best : Pr → Option Ed) (hat : AtPr best) (J Jx : List Ed → World → Prop)
    (hY : ∀ pre x W, J pre W → pre.length < nn → YieldAt Fence.wide (n - 1) Tryd.prog l #[Ed.v x] W fun e W' =>
      (e = .returned (.bool true) ∧ J (pre ++ [x]) W' ∧ KeepsWalks W W') ∨ (e = .returned (.bool false) ∧ Jx (pre ++ [x]) W'))
    (W : World) (hJ : AbidesFrom W.heap.size J) (hbx : W.cell? ⟨bx, 0, none⟩ = some (.map (some m))) (hm : VM jP W m nn (domE best)) (h0 : J [] W) :
    CallsIn Fence.wide n Tryd.prog 31 #[.func (.yield l) #[] #[], .pointer (some ⟨bx, 0, none⟩)] W fun e W' => (∃ v, e = .returned v) ∧
      ((∃ xs, (ValsOf best xs ∧ xs.length ≤ nn) ∧ J xs W') ∨ (∃ pre, True ∧ Jx pre W')) := by
  refine callsIn_of_wp Tryd.func31 rfl trivial ?_ rfl
  simp only [Tryd.ntmps31, List.size_toArray, List.length_cons, List.length_nil, Nat.reduceAdd, Nat.reduceSub, Array.replicate_succ, Array.replicate_zero, List.push_toArray, List.append_toArray, List.nil_append, List.cons_append]
  gi_wp2_with (first
    | (gi_at_range; refine wpi_vm_range (J := jP) rfl _ rfl Tryd.underlying37 hm rfl ?_; intro w0 cnt hcnt hvr g0 hz0)
    | gi_in)
  go_frame
  gi_loopw [4] (fun _ wr => ∃ (left : Pr → Bool) (cnt : Nat) (ss : List Ed), VR jP wr m W.heap.size nn (domE best) left cnt ∧ ss.length + cnt ≤ nn ∧ ColE best left ss ∧ J ss wr) (fun _ wr => wr.rangeLeft m W.heap.size)
  case atStart => exact ⟨_, cnt, [], hvr, by simpa using hcnt, ColE.start best, hJ [] W w0 none h0 g0 (fun r e => by cases e)⟩
  case round =>
    obtain ⟨left, cnt2, ss, hrg, hcs, hC, hJs⟩ := hrel
    gi_wp2_with (first
      | (gi_at_next; refine wpi_vm_next (J := jP) rfl _ rfl hrg rfl ?_ ?_)
      | gi_in)
    · intro hc0 hl0
      gi_wp2
      go_end0
      exact ⟨⟨_, rfl⟩, .inl ⟨ss, ⟨hC.done hl0, by omega⟩, hJs⟩⟩
    · intro x u w2 cnt3 hlx hdx hrg2 hlt hg2 hs2 hen
      obtain ⟨y, hb⟩ : ∃ y, best x = some y := by
        unfold domE at hdx
        cases hb : best x with
        | none => rw [hb] at hdx; cases hdx
        | some y => exact ⟨y, rfl⟩
      obtain rfl : u = Ed.v y := by unfold domE at hdx; rw [hb] at hdx; simpa using hdx.symm
      have hCS := hC.step hat hb hlx
      have hJ2 : J ss w2 := hJ ss wr w2 (some W.heap.size) hJs hg2 (fun r e => by cases e; exact ⟨Nat.le_refl _, hrg.iter_walk⟩)
      have hJ3 : J ss (w2.alloc (.cells #[.int .u32 y.t.toNat, .int .u32 y.h.toNat, .int .u64 y.w.toNat, .int .u32 y.m.toNat] 29)) := hJ ss w2 _ none hJ2 (gr_alloc _ _ none) (fun r e => by cases e)
      have hrg3 := hrg2.of_walks (KeepsWalks.alloc w2 (.cells #[.int .u32 y.t.toNat, .int .u32 y.h.toNat, .int .u64 y.w.toNat, .int .u32 y.m.toNat] 29))
      obtain ⟨fn, tmps, assign, body, hy, hR⟩ := hY ss y _ hJ3 (by omega)
      have HR := Lib.hid hR
      have hle := hrg.left_eq
      clear hs2 hR hJs hJ2 hJ3 hC hrg hrg2 hg2 hlx hdx hb
      unfold Ed.v at hen hy HR
      unfold Ed.v
      gi_wp2
      clear hy
      refine HR.out.mono ?_
      rintro e W4 (⟨rfl, hJ4, hk4⟩ | ⟨rfl, hJx4⟩)
      · have hrg4 := hrg3.of_walks hk4
        gi_wp2
        go_roundw
        case rel => exact ⟨_, cnt3, ss ++ [y], hrg4, by simp; omega, hCS, hJ4⟩
        case measure => rw [hrg4.left_eq, hle]; exact hlt
      · gi_wp2
        refine bodyPost_ret (results_none rfl _ _ _) rfl ?_
        exact ⟨⟨_, rfl⟩, .inr ⟨_, trivial, hJx4⟩⟩
end Go.Proofs.YthckjpcknmmagaaDoor.R
