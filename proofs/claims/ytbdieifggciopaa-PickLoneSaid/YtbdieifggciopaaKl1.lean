/-
  PickLone: the law's walk.
-/
import Derived.Test.YtbdieifggciopaaKl0
namespace Go.Proofs.Ytbdieifggciopaa
open Go.RowKit
set_option maxRecDepth 100000
set_option maxHeartbeats 400000

def lv (n i : Nat) : UInt32 := UInt32.ofNat (7 * (n - i))
theorem lv_nat {n i : Nat} (hn : n ≤ 100) : (lv n i).toNat = 7 * (n - i) := by
  unfold lv
  rw [UInt32.toNat_ofNat_of_lt' (by show _ < 4294967296; omega)]
def loneD (keys : List UInt64) (i : Nat) (k : UInt64) : Dt := ⟨lv keys.length i, k, [1, lv keys.length i]⟩
def loneL (keys : List UInt64) (m : Nat) : List Dt := (List.range m).map fun i => loneD keys i (keys.getD i 0)
theorem loneL_succ (keys : List UInt64) (m : Nat) : loneL keys (m + 1) = loneL keys m ++ [loneD keys m (keys.getD m 0)] := by
  unfold loneL
  rw [List.range_succ, List.map_append]; rfl
theorem loneL_len (keys : List UInt64) (m : Nat) : (loneL keys m).length = m := by simp [loneL]
theorem lone_pick (keys : List UInt64) (hn : keys.length ≤ 100) : PickOf (onceD (loneL keys keys.length)) ((List.range keys.length).map fun i => lv keys.length (keys.length - 1 - i)) := by
  have hu : UniD (loneL keys keys.length) := by
    unfold UniD loneL
    rw [List.pairwise_map]
    refine List.pairwise_lt_range.imp_of_mem fun {a b} ha hb hab e => ?_
    have e1 := congrArg UInt32.toNat (show lv keys.length a = lv keys.length b from e)
    rw [lv_nat hn, lv_nat hn] at e1
    have := List.mem_range.1 ha
    have := List.mem_range.1 hb
    omega
  rw [onceD_uniq hu]
  refine ⟨?_, fun v => ?_⟩
  · unfold RisS
    rw [List.pairwise_map]
    refine List.pairwise_lt_range.imp_of_mem fun {a b} ha hb hab => ?_
    rw [lv_nat hn, lv_nat hn]
    have := List.mem_range.1 ha
    have := List.mem_range.1 hb
    omega
  · have hnl : ∀ x ∈ loneL keys keys.length, ¬ lateD (loneL keys keys.length) x := by
      intro x hx
      rintro ⟨y, hy, hne, hnear, _⟩
      unfold loneL at hx hy
      obtain ⟨i, hi, rfl⟩ := List.mem_map.1 hx
      obtain ⟨j, hj, rfl⟩ := List.mem_map.1 hy
      have hi' := List.mem_range.1 hi
      have hj' := List.mem_range.1 hj
      have h1 : ∀ t, t < keys.length → lv keys.length t ≠ 1 := fun t ht e => by
        have e1 := congrArg UInt32.toNat e
        rw [lv_nat hn] at e1
        have : (1 : UInt32).toNat = 1 := rfl
        omega
      rcases hnear with h | h
      · simp only [loneD, List.mem_cons, List.not_mem_nil, or_false] at h
        rcases h with h | h
        · exact h1 j hj' h
        · exact hne h
      · simp only [loneD, List.mem_cons, List.not_mem_nil, or_false] at h
        rcases h with h | h
        · exact h1 i hi' h
        · exact hne h.symm
    constructor
    · intro h
      obtain ⟨i, hi, rfl⟩ := List.mem_map.1 h
      have hi' := List.mem_range.1 hi
      refine ⟨loneD keys (keys.length - 1 - i) (keys.getD (keys.length - 1 - i) 0), List.mem_map.2 ⟨_, List.mem_range.2 (by omega), rfl⟩, rfl, hnl _ (List.mem_map.2 ⟨_, List.mem_range.2 (by omega), rfl⟩)⟩
    · rintro ⟨x, hx, rfl, _⟩
      obtain ⟨j, hj, rfl⟩ := List.mem_map.1 hx
      have hj' := List.mem_range.1 hj
      refine List.mem_map.2 ⟨keys.length - 1 - j, List.mem_range.2 (by omega), ?_⟩
      show lv _ _ = lv _ _
      congr 1
      omega
theorem lone_at {keys : List UInt64} {i : Nat} (hi : i < keys.length) (h : i < ((List.range keys.length).map fun i => lv keys.length (keys.length - 1 - i)).length) (hn : keys.length ≤ 100) : ((List.range keys.length).map fun i => lv keys.length (keys.length - 1 - i))[i].toNat = 7 * (i + 1) := by
  rw [List.getElem_map, lv_nat hn, List.getElem_range]
  omega
set_option maxHeartbeats 4000000 in
theorem pickLone_any (v : Value) (keys : List UInt64) (w : World) (h : RdK w v keys) :
    Calls Try.prog 6 #[v] w fun e w' => e = .returned (.bool true) ∧ w.grownBy w' none := by
  have hmax2 : keys.length ≤ maxLen := by obtain ⟨_, _, _, _, _, _, h1, h2, _⟩ := h; omega
  unfold maxLen at hmax2
  have HW := Lib.hid works_any
  obtain ⟨A, c, rfl⟩ := h.form
  obtain ⟨g, off, hA, hcells⟩ := h.at_
  have HA := Lib.hid hA
  have HC := Lib.hid hcells
  clear h hA hcells
  by_cases h100 : keys.length ≤ 100
  · go_enter Try.func6, Try.ntmps6
    go_wp2
    go_loopw [3, 4] (fun u i wr => ∃ (k : Nat) (m : List Cd), k ≤ keys.length ∧ i = .int .i64 k ∧ Hid (OwnR wr w.heap.size u m) ∧ Hid (m.map Cd.d = loneL keys k) ∧ Hid (m.length = k) ∧ w.grownBy wr none) (fun _ i _ => keys.length - (intOf i).toNat)
    case atStart => exact ⟨0, [], by omega, rfl, OwnR.nil _ _, Lib.hid rfl, Lib.hid rfl, gr_refl _ _⟩
    case round =>
      obtain ⟨k, m, hk, rfl, ho, hm, hml, hg⟩ := hrel
      obtain ⟨Au, cu, rfl⟩ := RdC.form ho.out.rd
      have hz := hg.size
      have HG := Lib.hid hg
      have hm1 : m.length ≤ 100 := by have := hml.out; omega
      clear hg
      by_cases hlt : k < keys.length
      · have := HA.out (by omega)
        subst this
        have ck := HG.out.cell (HC.out k hlt) (by simp)
        have HKD : Hid (keys.getD k 0 = keys[k]) := by show _ = _; rw [List.getD_eq_getElem?_getD, List.getElem?_eq_getElem hlt]; rfl
        have HLN := Lib.hid (loneL_succ keys k)
        rw [HKD.out] at HLN
        generalize keys[k] = key at *
        obtain ⟨x, hx⟩ : ∃ x, x = lv keys.length k := ⟨_, rfl⟩
        have hxn : x.toNat = 7 * (keys.length - k) := by rw [hx]; exact lv_nat h100
        have HD : Hid (loneD keys k key = ⟨x, key, [1, x]⟩) := by show _ = _; rw [hx]; rfl
        have hx1 : IntKind.u32.wrap (7 * ((keys.length : Int) - (k : Int))) = (x.toNat : Int) := by rw [IntKind.wrap_u32]; omega
        clear hx hxn HKD
        have HOX := Lib.hid (ho.out.ext (gr_alloc wr (.cells #[.int .u32 1, .int .u32 x.toNat] 30) none))
        have HSF : Hid (Safe (wr.alloc (.cells #[.int .u32 1, .int .u32 x.toNat] 30)) (.slice Au m.length cu) ⟨⟨x, key, [1, x]⟩, .slice (some ⟨wr.heap.size, 0, none⟩) 2 2⟩) := by
          refine ⟨rd_lit wr 1 2 2 #[.int .u32 1, .int .u32 x.toNat] 30 rfl (Nat.le_refl _) (by unfold maxLen; omega), .inr ⟨fun q e => by cases e; simp, fun q e e2 => ?_⟩⟩
          have := ho.out.2.1 q e
          have e3 : wr.heap.size = q := Option.some.inj e2
          omega
        have HS1 : Hid (wr.heap.size + 1 = (wr.alloc (.cells #[.int .u32 1, .int .u32 x.toNat] 30)).heap.size) := by show _ = _; simp
        have HBB : Hid (w.heap.size ≤ (wr.alloc (.cells #[.int .u32 1, .int .u32 x.toNat] 30)).heap.size) := by show _ ≤ _; simp; omega
        have HGX : Hid (w.grownBy (wr.alloc (.cells #[.int .u32 1, .int .u32 x.toNat] 30)) none) := gr_none HG.out (gr_alloc _ _ none)
        clear ho
        go_wp2_with (at_builtin; refine wp_app1C (w := wr.alloc (.cells #[.int .u32 1, .int .u32 x.toNat] 30)) ⟨⟨x, key, [1, x]⟩, .slice (some ⟨wr.heap.size, 0, none⟩) 2 2⟩ _ rfl rfl rfl (.tmp 17) (.tmp 36) rfl rfl HOX.out.1 (wr.heap.size + 1) rfl HS1.out (by omega) HBB.out ?_; intro v6 w6 h6 g6 a6)
        have ho6 := Lib.hid (HOX.out.app h6 g6 a6 HSF.out)
        have hg6 : w.grownBy w6 none := gr_trans HGX.out g6 (.inr fun q e => HOX.out.1.lt q e)
        go_roundw
        case rel => exact ⟨k + 1, _, by omega, by go_num, ho6, Lib.hid (by rw [List.map_append, hm.out, HLN.out, HD.out]; rfl), Lib.hid (by rw [List.length_append, hml.out]; rfl), hg6⟩
        case measure => simp [intOf]; omega
      · obtain rfl : k = keys.length := by omega
        have HR := Lib.hid ho.out.rd
        have hnear : ∀ x ∈ m, x.d.near.length ≤ 5000 := fun x hx => by
          have h1 : x.d ∈ loneL keys keys.length := by rw [← hm.out]; exact List.mem_map.2 ⟨x, hx, rfl⟩
          obtain ⟨i, _, e⟩ := List.mem_map.1 h1
          rw [← e]; simp [loneD]
        have HP := Lib.hid (pick_any _ m wr HR.out (by omega) hnear)
        clear ho hnear
        go_wp2_with fail
        refine HP.out.mono ?_
        rintro e w2 ⟨⟨u2, out, rfl, ho2, hp2⟩, g2⟩
        rw [hm.out] at hp2
        have e2 := hp2.same (lone_pick keys h100)
        have hol : out.length = m.length := by rw [e2, hml.out]; simp
        have HAT : Hid (∀ i (h : i < out.length), out[i].toNat = 7 * (i + 1)) := fun i h => by
          subst e2
          exact lone_at (by simpa using h) h h100
        have HG2 := Lib.hid (gr_none HG.out g2)
        obtain ⟨A2, c2, rfl⟩ := RdU.form (Own.rd ho2)
        obtain ⟨g9, off9, hA9, hc9⟩ := RdU.at_ (Own.rd ho2)
        have HA9 := Lib.hid hA9
        have HC9 := Lib.hid hc9
        have hb : ((out.length : Int) != (m.length : Int)) = false := by rw [bne_eq_false_iff_eq]; omega
        have hol2 : out.length ≤ 100 := by omega
        clear hp2 e2 ho2 g2 hA9 hc9 hol HP
        go_wp2
        go_loopw [6] (fun i wq => ∃ k : Nat, k ≤ out.length ∧ i = .int .i64 k ∧ w2.grownBy wq none) (fun i _ => out.length - (intOf i).toNat)
        case atStart => exact ⟨0, by omega, rfl, gr_refl _ _⟩
        case round =>
          obtain ⟨j, hj, rfl, hgq⟩ := hrel
          by_cases hjl : j < out.length
          · have := HA9.out (by omega)
            subst this
            have cj := hgq.cell (HC9.out j hjl) (by simp)
            have hy := HAT.out j hjl
            generalize out[j] = y at *
            have hw7 : IntKind.u32.wrap (7 * ((j : Int) + 1)) = (y.toNat : Int) := by rw [IntKind.wrap_u32]; omega
            have HGQ := Lib.hid hgq
            clear hy hgq
            go_wp2
            go_roundw
            case rel => exact ⟨j + 1, by omega, by go_num, HGQ.out⟩
            case measure => simp [intOf]; omega
          · obtain rfl : j = out.length := by omega
            have HGQ := Lib.hid (gr_none HG2.out hgq)
            clear hgq
            go_wp2_with fail
            refine (HW.out _).mono ?_
            rintro e w9 ⟨rfl, g9⟩
            have G9 := Lib.hid (gr_none HGQ.out g9)
            clear g9
            go_wp2
            go_ret
            exact ⟨rfl, G9.out⟩
  · have hgt : 100 < keys.length := by omega
    go_enter Try.func6, Try.ntmps6
    go_wp2_with fail
    refine (HW.out _).mono ?_
    rintro e w1 ⟨rfl, g1⟩
    have G1 := Lib.hid g1
    clear g1
    go_wp2
    go_ret
    exact ⟨rfl, G1.out⟩
end Go.Proofs.Ytbdieifggciopaa
