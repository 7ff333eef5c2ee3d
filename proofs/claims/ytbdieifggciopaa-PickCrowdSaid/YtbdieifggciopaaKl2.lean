/-
  PickCrowd: the law's walk.
-/
import Derived.Test.YtbdieifggciopaaKl0
namespace Go.Proofs.Ytbdieifggciopaa
open Go.RowKit
set_option maxRecDepth 100000
set_option maxHeartbeats 400000

def vtx (i : Nat) : UInt32 := UInt32.ofNat i
theorem vtx_nat {i : Nat} (hi : i < 1000) : (vtx i).toNat = i := by
  unfold vtx
  rw [UInt32.toNat_ofNat_of_lt' (by show _ < 4294967296; omega)]
def crowdN (told : Bool) (i k : Nat) : List UInt32 := ((List.range k).filter fun t => told == decide (t < i)).map vtx
theorem crowdN_yes {told : Bool} {i k : Nat} (h : (told == decide (k < i)) = true) : crowdN told i (k + 1) = crowdN told i k ++ [vtx k] := by
  unfold crowdN
  rw [List.range_succ, List.filter_append, List.map_append]
  simp [h]
theorem crowdN_no {told : Bool} {i k : Nat} (h : (told == decide (k < i)) = false) : crowdN told i (k + 1) = crowdN told i k := by
  unfold crowdN
  rw [List.range_succ, List.filter_append, List.map_append]
  simp [h]
theorem crowdN_len (told : Bool) (i k : Nat) : (crowdN told i k).length ≤ k := by
  unfold crowdN
  rw [List.length_map]
  have := List.length_filter_le (fun t => told == decide (t < i)) (List.range k)
  simpa using this
theorem crowdN_mem {told : Bool} {i k t : Nat} (ht : t < k) (h : (told == decide (t < i)) = true) : vtx t ∈ crowdN told i k :=
  List.mem_map.2 ⟨t, List.mem_filter.2 ⟨List.mem_range.2 ht, h⟩, rfl⟩
def crowdD (keys : List UInt64) (told : Bool) (i : Nat) (key : UInt64) : Dt := ⟨vtx i, key, crowdN told i keys.length⟩
def crowdL (keys : List UInt64) (told : Bool) (m : Nat) : List Dt := (List.range m).map fun i => crowdD keys told i (keys.getD i 0)
theorem crowdL_succ (keys : List UInt64) (told : Bool) (m : Nat) : crowdL keys told (m + 1) = crowdL keys told m ++ [crowdD keys told m (keys.getD m 0)] := by
  unfold crowdL
  rw [List.range_succ, List.map_append]; rfl
/-- the first one of the least. -/
def BestK (keys : List UInt64) (k b : Nat) : Prop := (k = 0 ∧ b = 0) ∨ (b < k ∧ ∀ t, t < k → (keys.getD b 0).toNat ≤ (keys.getD t 0).toNat ∧ (t < b → (keys.getD b 0).toNat < (keys.getD t 0).toNat))
theorem BestK.lt {keys : List UInt64} {k b : Nat} (h : BestK keys k b) : b ≤ k := by rcases h with h | h <;> omega
theorem BestK.less {keys : List UInt64} {k b : Nat} (h : BestK keys k b) (hl : (keys.getD k 0).toNat < (keys.getD b 0).toNat) : BestK keys (k + 1) k := by
  refine .inr ⟨by omega, fun t ht => ?_⟩
  rcases h with ⟨rfl, rfl⟩ | ⟨h1, h2⟩
  · omega
  · by_cases e : t = k
    · subst e; exact ⟨Nat.le_refl _, fun h => by omega⟩
    · have := (h2 t (by omega)).1
      exact ⟨by omega, fun _ => by omega⟩
theorem BestK.stay {keys : List UInt64} {k b : Nat} (h : BestK keys k b) (hl : ¬ (keys.getD k 0).toNat < (keys.getD b 0).toNat) : BestK keys (k + 1) b := by
  rcases h with ⟨rfl, rfl⟩ | ⟨h1, h2⟩
  · refine .inr ⟨by omega, fun t ht => ?_⟩
    obtain rfl : t = 0 := by omega
    exact ⟨Nat.le_refl _, fun h => by omega⟩
  · refine .inr ⟨by omega, fun t ht => ?_⟩
    by_cases e : t = k
    · subst e; exact ⟨by omega, fun h => by omega⟩
    · exact h2 t (by omega)
theorem crowd_pick {keys : List UInt64} {told : Bool} {b : Nat} (hn : keys.length ≤ 40) (h0 : 0 < keys.length) (hb : BestK keys keys.length b) : PickOf (onceD (crowdL keys told keys.length)) [vtx b] := by
  obtain ⟨hbl, hbk⟩ : b < keys.length ∧ _ := by
    rcases hb with h | h
    · omega
    · exact h
  have hu : UniD (crowdL keys told keys.length) := by
    unfold UniD crowdL
    rw [List.pairwise_map]
    refine List.pairwise_lt_range.imp_of_mem fun {a c} ha hc hac e => ?_
    have e1 := congrArg UInt32.toNat (show vtx a = vtx c from e)
    have := List.mem_range.1 ha
    have := List.mem_range.1 hc
    rw [vtx_nat (by omega), vtx_nat (by omega)] at e1
    omega
  rw [onceD_uniq hu]
  have hmem : ∀ i, i < keys.length → crowdD keys told i (keys.getD i 0) ∈ crowdL keys told keys.length := fun i hi => List.mem_map.2 ⟨i, List.mem_range.2 hi, rfl⟩
  have hnear : ∀ i j, i < keys.length → j < keys.length → i ≠ j → nearD (crowdD keys told i (keys.getD i 0)) (crowdD keys told j (keys.getD j 0)) := by
    intro i j hi hj hij
    by_cases hlt : j < i
    · cases told with
      | true => exact .inl (crowdN_mem hj (by simp [hlt]))
      | false => exact .inr (crowdN_mem hi (by simp; omega))
    · cases told with
      | true => exact .inr (crowdN_mem hi (by simp; omega))
      | false => exact .inl (crowdN_mem hj (by simp; omega))
  refine ⟨List.pairwise_singleton _ _, fun v => ?_⟩
  rw [List.mem_singleton]
  constructor
  · rintro rfl
    refine ⟨_, hmem b hbl, rfl, ?_⟩
    rintro ⟨y, hy, hne, _, ha⟩
    obtain ⟨j, hj, rfl⟩ := List.mem_map.1 hy
    have hj' := List.mem_range.1 hj
    obtain ⟨k1, k2⟩ := hbk j hj'
    unfold aheadD crowdD at ha
    simp only [vtx_nat (show j < 1000 by omega), vtx_nat (show b < 1000 by omega)] at ha
    rcases ha with ha | ⟨ha, hv⟩
    · omega
    · have := k2 hv
      omega
  · rintro ⟨x, hx, rfl, hl⟩
    obtain ⟨i, hi, rfl⟩ := List.mem_map.1 hx
    have hi' := List.mem_range.1 hi
    by_cases e : i = b
    · subst e; rfl
    · exfalso
      apply hl
      have hbi : vtx b ≠ vtx i := fun e2 => by
        have := congrArg UInt32.toNat e2
        rw [vtx_nat (by omega), vtx_nat (by omega)] at this
        omega
      refine ⟨_, hmem b hbl, hbi, hnear i b hi' hbl e, ?_⟩
      obtain ⟨k1, k2⟩ := hbk i hi'
      unfold aheadD crowdD
      simp only [vtx_nat (show i < 1000 by omega), vtx_nat (show b < 1000 by omega)]
      by_cases hib : i < b
      · exact .inl (k2 hib)
      · omega
set_option maxHeartbeats 8000000 in
theorem pickCrowd_any (v : Value) (keys : List UInt64) (told : Bool) (w : World) (h : RdK w v keys) :
    Calls Try.prog 7 #[v, .bool told] w fun e w' => e = .returned (.bool true) ∧ w.grownBy w' none := by
  have hmax2 : keys.length ≤ maxLen := by obtain ⟨_, _, _, _, _, _, h1, h2, _⟩ := h; omega
  unfold maxLen at hmax2
  have HW := Lib.hid works_any
  obtain ⟨A, c, rfl⟩ := h.form
  obtain ⟨g, off, hA, hcells⟩ := h.at_
  have HA := Lib.hid hA
  have HC := Lib.hid hcells
  clear h hA hcells
  by_cases hin : keys.length ≤ 40 ∧ 0 < keys.length
  · obtain ⟨h40, h0⟩ := hin
    have hA0 := HA.out h0
    subst hA0
    have hz0 : ((keys.length : Int) == 0) = false := by rw [beq_eq_false_iff_ne]; omega
    go_enter Try.func7, Try.ntmps7
    go_wp2
    go_loopw [5, 6, 7] (fun u b i wr => ∃ (k bs : Nat) (m : List Cd), k ≤ keys.length ∧ i = .int .i64 k ∧ b = .int .i64 bs ∧ Hid (BestK keys k bs) ∧ Hid (OwnR wr w.heap.size u m) ∧ Hid (m.map Cd.d = crowdL keys told k) ∧ Hid (m.length = k) ∧ w.grownBy wr none) (fun _ _ i _ => keys.length - (intOf i).toNat)
    case atStart => exact ⟨0, 0, [], by omega, rfl, rfl, Lib.hid (.inl ⟨rfl, rfl⟩), OwnR.nil _ _, Lib.hid rfl, Lib.hid rfl, gr_refl _ _⟩
    case round =>
      obtain ⟨k, bs, m, hk, rfl, rfl, hbs, ho, hm, hml, hg⟩ := hrel
      obtain ⟨Au, cu, rfl⟩ := RdC.form ho.out.rd
      have hz := hg.size
      have HG := Lib.hid hg
      have hm1 : m.length ≤ 100 := by have := hml.out; omega
      have hbk := hbs.out.lt
      clear hg
      by_cases hlt : k < keys.length
      · have ck := HG.out.cell (HC.out k hlt) (by simp)
        have HKD : Hid (keys.getD k 0 = keys[k]) := by show _ = _; rw [List.getD_eq_getElem?_getD, List.getElem?_eq_getElem hlt]; rfl
        have HLN := Lib.hid (crowdL_succ keys told k)
        rw [HKD.out] at HLN
        obtain ⟨x, hx⟩ : ∃ x, x = vtx k := ⟨_, rfl⟩
        have hxk : x.toNat = k := by rw [hx]; exact vtx_nat (by omega)
        have HXU := Lib.hid hx
        have hwk : IntKind.u32.wrap (k : Int) = (x.toNat : Int) := by rw [IntKind.wrap_u32]; omega
        have HXK := Lib.hid hxk
        clear hx hxk
        generalize hkey : keys[k] = key at *
        have HKEY := Lib.hid hkey
        clear hkey
        have HB0 : Hid (Blk (wr.alloc (.cells #[.int .u32 x.toNat, .int .u64 key.toNat, .slice none 0 0] 33)) wr.heap.size 33 #[.int .u32 x.toNat, .int .u64 key.toNat, .slice none 0 0]) := Blk.new _ _ _
        go_wp2
        go_loopw [9] (fun i wq => ∃ (t : Nat) (s : Value), t ≤ keys.length ∧ i = .int .i64 t ∧ Hid (Blk wq wr.heap.size 33 #[.int .u32 x.toNat, .int .u64 key.toNat, s]) ∧ Hid (OwnU wq (wr.heap.size + 1) s (crowdN told k t)) ∧ Hid (Lies wq s) ∧ wr.grownBy wq none ∧ wr.heap.size + 1 ≤ wq.heap.size) (fun i _ => keys.length - (intOf i).toNat)
        case atStart => exact ⟨0, .slice none 0 0, by omega, rfl, HB0, Own.nil _ _ _, fun q e => (by cases e), gr_alloc _ _ none, by rw [World.size_alloc]; omega⟩
        case round =>
          clear HB0
          obtain ⟨t, s, ht, rfl, hbx, hos, hls, hgq, hzq⟩ := hrel
          obtain ⟨wo, rfl⟩ : ∃ wo, wo = wr := ⟨_, rfl⟩
          have HGQ := Lib.hid hgq
          clear hgq
          by_cases htl : t < keys.length
          · obtain ⟨y, hy⟩ : ∃ y, y = vtx t := ⟨_, rfl⟩
            have hyt : y.toNat = t := by rw [hy]; exact vtx_nat (by omega)
            have hwt : IntKind.u32.wrap (t : Int) = (y.toNat : Int) := by rw [IntKind.wrap_u32]; omega
            have HY := Lib.hid hy
            clear hy hyt
            have hlen := crowdN_len told k t
            obtain ⟨As, cs, rfl⟩ := RdU.form (Own.rd hos.out)
            have b0 : wo.cell? ⟨wr.heap.size, 0, none⟩ = some (.int .u32 x.toNat) := hbx.out.cell 0
            have b2 : wo.cell? ⟨wr.heap.size, 2, none⟩ = some (.slice As (crowdN told k t).length cs) := hbx.out.cell 2
            cases hc : (told == decide (t < k))
            · have HN := Lib.hid (crowdN_no hc)
              go_wp2
              go_roundw
              case rel => exact ⟨t + 1, _, by omega, by go_num, hbx, Lib.hid (by rw [HN.out]; exact hos.out), hls, HGQ.out, hzq⟩
              case measure => simp [intOf]; omega
            · have HN := Lib.hid (crowdN_yes hc)
              have hbn : ∀ q, (Value.slice As (crowdN told k t).length cs).ownBlock = some q → wr.heap.size + 1 ≤ q := Own.lt hos.out
              have HBN := Lib.hid hbn
              clear hbn
              go_wp2_with (at_builtin; refine wp_app1U (w := wo) y _ rfl rfl (.tmp 45) (.tmp 48) rfl rfl hos.out _ rfl rfl (by omega) hzq ?_; intro v6 w6 h6 g6 a6; have h6' : OwnU w6 (wr.heap.size + 1) v6 (crowdN told k (t + 1)) := (by rw [HN.out, ← HY.out]; exact h6); clear h6; obtain ⟨A6, c6, rfl⟩ := RdU.form (Own.rd h6'); have HB6 := Lib.hid (hbx.out.gr g6 (fun e => by have := HBN.out _ e; omega)); have G6 := Lib.hid g6; have H6 := Lib.hid h6'; have b26 : w6.cell? ⟨wr.heap.size, 2, none⟩ = some (.slice As (crowdN told k t).length cs) := HB6.out.cell 2; have f26 := HB6.out.frozen 2; clear g6 h6' a6 b0 b2)
              have hlt6 := Own.lt H6.out
              go_roundw
              case rel => exact ⟨t + 1, _, by omega, by go_num, HB6.out.set 2 _, Lib.hid (Own.gr H6.out (gr_setCell _ _ _) (fun q e e2 => by have := hlt6 _ e2; have e3 : wr.heap.size = q := Option.some.inj e; omega)), (Own.lies H6.out (by rw [HN.out]; simp) (by omega)).mono (by simp [World.setCell]), gr_set_new (gr_trans HGQ.out G6.out (.inr fun q e => by have := HBN.out q e; omega)) _ _ (Nat.le_refl _), by have := G6.out.size; simp [World.setCell]; omega⟩
              case measure => simp [intOf]; omega
          · obtain rfl : t = keys.length := by omega
            have hbl : bs < keys.length := by omega
            have HBD : Hid (keys.getD bs 0 = keys[bs]) := by show _ = _; rw [List.getD_eq_getElem?_getD, List.getElem?_eq_getElem hbl]; rfl
            have HGW := Lib.hid (gr_none HG.out HGQ.out)
            have HCK : Hid (∀ wx, w.grownBy wx none → wx.cell? ⟨g, off + k, none⟩ = some (.int .u64 key.toNat) ∧ wx.cell? ⟨g, off + bs, none⟩ = some (.int .u64 keys[bs].toNat)) := fun wx hx => by
              have h1 := hx.cell (HC.out k hlt) (by simp)
              rw [HKEY.out] at h1
              exact ⟨h1, hx.cell (HC.out bs hbl) (by simp)⟩
            generalize keys[bs] = bkey at *
            obtain ⟨As, cs, rfl⟩ := RdU.form (Own.rd hos.out)
            have b0 : wo.cell? ⟨wr.heap.size, 0, none⟩ = some (.int .u32 x.toNat) := hbx.out.cell 0
            have b1 : wo.cell? ⟨wr.heap.size, 1, none⟩ = some (.int .u64 key.toNat) := hbx.out.cell 1
            have b2 : wo.cell? ⟨wr.heap.size, 2, none⟩ = some (.slice As (crowdN told k keys.length).length cs) := hbx.out.cell 2
            have HOW := Lib.hid (ho.out.ext HGQ.out)
            have HSF : Hid (Safe wo (.slice Au m.length cu) ⟨⟨x, key, crowdN told k keys.length⟩, .slice As (crowdN told k keys.length).length cs⟩) :=
              ⟨Own.rd hos.out, .inr ⟨hls.out, fun q e e2 => by have := ho.out.2.1 q e; have := Own.lt hos.out q e2; omega⟩⟩
            have HDT : Hid (crowdD keys told k key = ⟨x, key, crowdN told k keys.length⟩) := by show _ = _; rw [HXU.out]; rfl
            have hzw : w.heap.size ≤ wo.heap.size := by omega
            generalize crowdN told k keys.length = nr at *
            clear ho hos hbx hls
            go_wp2_with (at_builtin; refine wp_app1C (w := wo) ⟨⟨x, key, nr⟩, .slice As nr.length cs⟩ _ rfl rfl rfl (.tmp 51) (.tmp 53) rfl rfl HOW.out.1 _ rfl rfl (by omega) hzw ?_; intro v6 w6 h6 g6 a6; have HO6 := Lib.hid (HOW.out.app h6 g6 a6 HSF.out); have HG6 : Hid (w.grownBy w6 none) := gr_trans HGW.out g6 (.inr fun q e => HOW.out.1.lt q e); obtain ⟨k1, k2⟩ := HCK.out w6 HG6.out; clear h6 g6 a6 b0 b1 b2)
            have HM6 : Hid ((m ++ [(⟨⟨x, key, nr⟩, .slice As nr.length cs⟩ : Cd)]).map Cd.d = crowdL keys told (k + 1)) := by
              show _ = _
              rw [List.map_append, hm.out, HLN.out, HDT.out]; rfl
            have HL6 : Hid ((m ++ [(⟨⟨x, key, nr⟩, .slice As nr.length cs⟩ : Cd)]).length = k + 1) := by
              show _ = _
              rw [List.length_append, hml.out]; rfl
            by_cases hlk : key.toNat < bkey.toNat
            · have HBS := Lib.hid (hbs.out.less (by rw [HKD.out, HBD.out]; exact hlk))
              go_quiet (fail)
              go_wp2
              go_roundw
              case rel => exact ⟨k + 1, k, _, by omega, by go_num, rfl, HBS, HO6.out.ext (gr_drewN _ _ _), HM6, HL6, gr_none HG6.out (gr_drewN _ _ _)⟩
              case measure => simp [intOf]; omega
            · have HBS := Lib.hid (hbs.out.stay (by rw [HKD.out, HBD.out]; exact hlk))
              go_quiet (fail)
              go_wp2
              go_roundw
              case rel => exact ⟨k + 1, bs, _, by omega, by go_num, rfl, HBS, HO6.out.ext (gr_drewN _ _ _), HM6, HL6, gr_none HG6.out (gr_drewN _ _ _)⟩
              case measure => simp [intOf]; omega
      · obtain rfl : k = keys.length := by omega
        have HR := Lib.hid ho.out.rd
        have hnear : ∀ x ∈ m, x.d.near.length ≤ 5000 := fun x hx => by
          have h1 : x.d ∈ crowdL keys told keys.length := by rw [← hm.out]; exact List.mem_map.2 ⟨x, hx, rfl⟩
          obtain ⟨i, _, e⟩ := List.mem_map.1 h1
          rw [← e]
          have := crowdN_len told i keys.length
          show (crowdN told i keys.length).length ≤ 5000
          omega
        have HP := Lib.hid (pick_any _ m wr HR.out (by omega) hnear)
        have hwb : IntKind.u32.wrap (bs : Int) = ((vtx bs).toNat : Int) := by rw [vtx_nat (by omega), IntKind.wrap_u32]; omega
        clear ho hnear
        go_wp2_with fail
        refine HP.out.mono ?_
        rintro e w2 ⟨⟨u2, out, rfl, ho2, hp2⟩, g2⟩
        rw [hm.out] at hp2
        have e2 := hp2.same (crowd_pick h40 h0 hbs.out)
        subst e2
        have HG2 := Lib.hid (gr_none HG.out g2)
        obtain ⟨A2, c2, rfl⟩ := RdU.form (Own.rd ho2)
        obtain ⟨g9, off9, hA9, hc9⟩ := RdU.at_ (Own.rd ho2)
        obtain rfl := hA9 (by simp)
        have k0 : w2.cell? ⟨g9, off9, none⟩ = some (.int .u32 (vtx bs).toNat) := hc9 0 (by simp)
        have hln : ([vtx bs] : List UInt32).length = 1 := rfl
        rw [hln]
        generalize vtx bs = y at *
        clear hp2 ho2 g2 hA9 hc9 HP
        go_wp2_with fail
        refine (HW.out _).mono ?_
        rintro e w9 ⟨rfl, g9⟩
        have G9 := Lib.hid (gr_none HG2.out g9)
        clear g9
        go_wp2
        go_ret
        exact ⟨rfl, G9.out⟩
  · by_cases h40 : keys.length ≤ 40
    · have h0 : keys.length = 0 := by omega
      clear hin
      have hz : ((keys.length : Int) == 0) = true := by rw [beq_iff_eq]; omega
      go_enter Try.func7, Try.ntmps7
      go_wp2_with fail
      refine (HW.out _).mono ?_
      rintro e w1 ⟨rfl, g1⟩
      have G1 := Lib.hid g1
      clear g1
      go_wp2
      go_ret
      exact ⟨rfl, G1.out⟩
    · have hgt : 40 < keys.length := by omega
      clear hin
      go_enter Try.func7, Try.ntmps7
      go_wp2_with fail
      refine (HW.out _).mono ?_
      rintro e w1 ⟨rfl, g1⟩
      have G1 := Lib.hid g1
      clear g1
      go_wp2
      go_ret
      exact ⟨rfl, G1.out⟩
end Go.Proofs.Ytbdieifggciopaa
