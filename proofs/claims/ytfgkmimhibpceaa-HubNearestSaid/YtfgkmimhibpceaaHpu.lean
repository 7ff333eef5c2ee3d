/-
  Hub: the document's put: a candidate among others, which rise by hub.
-/
import Derived.Test.YtfgkmimhibpceaaHrf
namespace Go.Proofs.Ytfgkmimhibpceaa
open Go.RowKit
set_option maxRecDepth 100000
set_option maxHeartbeats 400000

def putL : List Lb → Lb → List Lb
  | [], x => [x]
  | y :: r, x => if y.hub.toNat < x.hub.toNat then y :: putL r x else if y.hub.toNat = x.hub.toNat then (if ahd x y < 0 then x :: r else y :: r) else x :: y :: r
def LowTo (l : List Lb) (x : Lb) (k : Nat) : Prop := ∀ i (h : i < l.length), i < k → l[i].hub.toNat < x.hub.toNat
theorem LowTo.succ {l : List Lb} {x : Lb} {k : Nat} (h : LowTo l x k) (hk : k < l.length) (hl : l[k].hub.toNat < x.hub.toNat) : LowTo l x (k + 1) := by
  intro i hi h2
  by_cases e : i = k
  · subst e; exact hl
  · exact h i hi (by omega)
theorem LowTo.tail {y : Lb} {r : List Lb} {x : Lb} {k : Nat} (h : LowTo (y :: r) x (k + 1)) : LowTo r x k := fun i hi h2 => h (i + 1) (by simpa using hi) (by omega)
theorem putL_ins {l : List Lb} {x : Lb} {k : Nat} (h : LowTo l x k) (hk : k ≤ l.length) (hn : ∀ (hk : k < l.length), x.hub.toNat < l[k].hub.toNat) : putL l x = l.take k ++ x :: l.drop k := by
  induction l generalizing k with
  | nil => simp [putL]
  | cons y r ih =>
    cases k with
    | zero =>
      have := hn (by simp)
      simp at this
      simp only [putL]
      rw [if_neg (by omega), if_neg (by omega)]; rfl
    | succ k =>
      have h0 := h 0 (by simp) (by omega)
      simp at h0
      simp only [putL]
      rw [if_pos h0, ih h.tail (by simpa using hk) (fun hk2 => by have := hn (by simpa using hk2); simpa using this)]
      rfl
theorem putL_set {l : List Lb} {x : Lb} {k : Nat} (h : LowTo l x k) (hk : k < l.length) (he : l[k].hub.toNat = x.hub.toNat) (ha : ahd x l[k] < 0) : putL l x = l.set k x := by
  induction l generalizing k with
  | nil => simp at hk
  | cons y r ih =>
    cases k with
    | zero =>
      simp at he ha
      simp only [putL]
      rw [if_neg (by omega), if_pos he, if_pos ha]; rfl
    | succ k =>
      have h0 := h 0 (by simp) (by omega)
      simp at h0
      simp only [putL]
      rw [if_pos h0, ih h.tail (by simpa using hk) (by simpa using he) (by simpa using ha)]
      rfl
theorem putL_keep {l : List Lb} {x : Lb} {k : Nat} (h : LowTo l x k) (hk : k < l.length) (he : l[k].hub.toNat = x.hub.toNat) (ha : ¬ ahd x l[k] < 0) : putL l x = l := by
  induction l generalizing k with
  | nil => simp at hk
  | cons y r ih =>
    cases k with
    | zero =>
      simp at he ha
      simp only [putL]
      rw [if_neg (by omega), if_pos he, if_neg (by omega)]
    | succ k =>
      have h0 := h 0 (by simp) (by omega)
      simp at h0
      simp only [putL]
      rw [if_pos h0, ih h.tail (by simpa using hk) (by simpa using he) (by simpa using ha)]
/-- is a candidate ahead of another one? -/
theorem ahd_iff (x y : Lb) : ahd x y < 0 ↔ x.dist.toNat < y.dist.toNat ∨ x.dist.toNat = y.dist.toNat ∧ x.next.toNat < y.next.toNat := by
  unfold ahd orV cmpN
  split <;> split <;> (try split) <;> (try split) <;> omega
theorem OwnG.at_ {α : Type} {enc : α → List Value} {s : Nat} (hk : ∀ x, (enc x).length = s) {w : World} {B : Nat} {A : Option Addr} {c : Nat} {l : List α} (h : OwnG enc s w B (.slice A l.length c) l) : ∃ g off, (0 < c → A = some ⟨g, off, none⟩) ∧ l.length ≤ c ∧
    (∀ i (hi : i < l.length), ∀ j, j < s → w.cell? ⟨g, off + i * s + j, none⟩ = (enc l[i])[j]? ∧ w.frozen? ⟨g, off + i * s + j, none⟩ = false) := by
  obtain ⟨_, _, _, g, off, e, hn, hc, _, hA, _, hx, hf⟩ := h
  cases e
  refine ⟨g, off, fun h0 => hA (by omega), hn, fun i hi j hj => ?_⟩
  have hij : i * s + j < l.length * s := by
    have : (i + 1) * s ≤ l.length * s := Nat.mul_le_mul_right s hi
    rw [Nat.add_mul] at this; omega
  have hle : l.length * s ≤ c * s := Nat.mul_le_mul_right s hn
  rw [Nat.add_assoc]
  exact ⟨by rw [hx _ hij, flat_at hk l hi hj], (hf _ (by omega)).2⟩
theorem at6O {w : World} {g off : Nat} {l : List Lb} (hc : ∀ i (hi : i < l.length), ∀ j, j < 3 → w.cell? ⟨g, off + i * 3 + j, none⟩ = (l[i].enc)[j]? ∧ w.frozen? ⟨g, off + i * 3 + j, none⟩ = false) {k : Nat} (hk : k < l.length) {a b : UInt32} {c : UInt64} (e : l[k] = ⟨a, b, c⟩) :
    (w.cell? ⟨g, off + k * 3, none⟩ = some (.int .u32 a.toNat) ∧ w.cell? ⟨g, off + k * 3 + 1, none⟩ = some (.int .u32 b.toNat) ∧ w.cell? ⟨g, off + k * 3 + 2, none⟩ = some (.int .u64 c.toNat)) ∧
    w.frozen? ⟨g, off + k * 3, none⟩ = false ∧ w.frozen? ⟨g, off + k * 3 + 1, none⟩ = false ∧ w.frozen? ⟨g, off + k * 3 + 2, none⟩ = false := by
  have h0 := hc k hk 0 (by omega)
  have h1 := hc k hk 1 (by omega)
  have h2 := hc k hk 2 (by omega)
  rw [e] at h0 h1 h2
  exact ⟨⟨h0.1, h1.1, h2.1⟩, h0.2, h1.2, h2.2⟩
theorem OwnL.lt_size {w : World} {B : Nat} {v : Value} {l : List Lb} (h : OwnL w B v l) (h0 : 0 < l.length) : ∀ k, v.ownBlock = some k → k < w.heap.size := by
  obtain ⟨_, A, c, g, off, rfl, hn, hc, _, hA, _, hx, hf⟩ := h
  intro k hk
  obtain rfl := hA (by omega)
  cases hk
  obtain ⟨u, hu⟩ := Option.isSome_iff_exists.1 (hf 0 (by omega)).1
  exact World.block_lt_of_cell? w _ hu
theorem ins_len {l : List Lb} {z : Lb} {i : Nat} (hi : i ≤ l.length) : (l.take i ++ z :: l.drop i).length = l.length + 1 := by simp; omega
theorem ins_at {l : List Lb} {z : Lb} {i : Nat} (hi : i < l.length) (h : i < (l.take (i + 1) ++ z :: l.drop (i + 1)).length) : (l.take (i + 1) ++ z :: l.drop (i + 1))[i] = l[i] := by
  rw [List.getElem_append_left (by simp; omega)]
  simp
theorem ins_step {l : List Lb} {z : Lb} {i : Nat} (hi : i < l.length) : (l.take (i + 1) ++ z :: l.drop (i + 1)).set (i + 1) l[i] = l.take i ++ l[i] :: l.drop i := by
  apply List.ext_getElem
  · simp; omega
  · intro j h1 h2
    rw [List.getElem_set]
    by_cases e : i + 1 = j
    · subst e
      rw [if_pos rfl, List.getElem_append_right (by simp; omega)]
      simp only [List.length_take]
      rw [List.getElem_cons]
      have e2 : ¬ i + 1 - min i l.length = 0 := by omega
      rw [dif_neg e2]
      simp only [List.getElem_drop]
      congr 1
      omega
    · rw [if_neg e]
      by_cases hj : j < i
      · rw [List.getElem_append_left (by simp; omega), List.getElem_append_left (by simp; omega)]
        simp
      · by_cases he : j = i
        · subst he
          rw [List.getElem_append_left (by simp; omega), List.getElem_append_right (by simp; omega)]
          simp [Nat.min_eq_left (Nat.le_of_lt hi)]
        · rw [List.getElem_append_right (by simp; omega), List.getElem_append_right (by simp; omega)]
          simp only [List.length_take]
          rw [List.getElem_cons, List.getElem_cons]
          have e1 : ¬ j - min (i + 1) l.length = 0 := by omega
          have e2 : ¬ j - min i l.length = 0 := by omega
          rw [dif_neg e1, dif_neg e2]
          simp only [List.getElem_drop]
          congr 1
          omega
theorem ins_end {l : List Lb} {z x : Lb} {k : Nat} (hk : k ≤ l.length) : (l.take k ++ z :: l.drop k).set k x = l.take k ++ x :: l.drop k := by
  rw [List.set_append_right _ _ (by simp; omega)]
  simp [Nat.min_eq_left hk]
theorem set_flat {l : List Lb} {i : Nat} (hi : i < l.length) (x : Lb) : (((l.flatMap Lb.enc).set (i * 3) (.int .u32 x.hub.toNat)).set (i * 3 + 1) (.int .u32 x.next.toNat)).set (i * 3 + 2) (.int .u64 x.dist.toNat) = (l.set i x).flatMap Lb.enc := by
  induction l generalizing i with
  | nil => simp at hi
  | cons y r ih =>
    cases i with
    | zero => rfl
    | succ i =>
      rw [show (i + 1) * 3 = i * 3 + 3 from by omega]
      show (((Value.int .u32 y.hub.toNat :: Value.int .u32 y.next.toNat :: Value.int .u64 y.dist.toNat :: r.flatMap Lb.enc).set (i * 3 + 3) _).set (i * 3 + 3 + 1) _).set (i * 3 + 3 + 2) _ = _
      have := ih (i := i) (by simpa using hi)
      rw [show (y :: r).set (i + 1) x = y :: r.set i x from rfl]
      show _ = Value.int .u32 y.hub.toNat :: Value.int .u32 y.next.toNat :: Value.int .u64 y.dist.toNat :: (r.set i x).flatMap Lb.enc
      rw [← this]
      rfl
theorem OwnL.base {w : World} {B n c : Nat} {A : Option Addr} {l : List Lb} (h : OwnL w B (.slice A n c) l) (h0 : 0 < l.length) : ∃ g off, A = some ⟨g, off, none⟩ := by
  obtain ⟨_, A', c', g, off, e, hn, hc, _, hA, _⟩ := h
  cases e
  exact ⟨g, off, hA (by omega)⟩
theorem OwnL.at6 {w : World} {B n c g off : Nat} {l : List Lb} (h : OwnL w B (.slice (some ⟨g, off, none⟩) n c) l) {k : Nat} (hk : k < l.length) {a b : UInt32} {d : UInt64} (e : l[k] = ⟨a, b, d⟩) :
    (w.cell? ⟨g, off + k * 3, none⟩ = some (.int .u32 a.toNat) ∧ w.cell? ⟨g, off + k * 3 + 1, none⟩ = some (.int .u32 b.toNat) ∧ w.cell? ⟨g, off + k * 3 + 2, none⟩ = some (.int .u64 d.toNat)) ∧
    w.frozen? ⟨g, off + k * 3, none⟩ = false ∧ w.frozen? ⟨g, off + k * 3 + 1, none⟩ = false ∧ w.frozen? ⟨g, off + k * 3 + 2, none⟩ = false := by
  have hn : n = l.length := by obtain ⟨A', c', e⟩ := h.rd.form; cases e; rfl
  subst hn
  obtain ⟨g', off', hA', hlc, hx⟩ := OwnG.at_ lb3 h
  have := hA' (by omega)
  cases this
  exact at6O hx hk e
theorem gr_set3 (w : World) (g a b c : Nat) (x y z : Value) : w.grownBy (((w.setCell ⟨g, a, none⟩ x).setCell ⟨g, b, none⟩ y).setCell ⟨g, c, none⟩ z) (some g) :=
  gr_trans (gr_trans (gr_setCell w ⟨g, a, none⟩ x) (gr_setCell _ ⟨g, b, none⟩ y) (.inl rfl)) (gr_setCell _ ⟨g, c, none⟩ z) (.inl rfl)
theorem gr_own {w wr w7 wq : World} {r : Option Nat} {g : Nat} (h1 : w.grownBy wr none) (h2 : wr.grownBy w7 r) (h3 : w7.grownBy wq (some g)) (h : some g = r ∨ ∃ k, some g = some k ∧ wr.heap.size ≤ k) : w.grownBy wq r :=
  gr_trans (gr_trans (gr_of_none h1) h2 (.inl rfl)) h3 (by
    rcases h with h | ⟨k, h, hk⟩
    · exact .inl h
    · exact .inr fun q e => by cases e; cases h; have := h1.size; omega)
/-- a label is stored into a list of the call's own. -/
theorem OwnL.set {w : World} {B n c g off : Nat} {A : Option Addr} {l : List Lb} (h : OwnL w B (.slice A n c) l) (hA : A = some ⟨g, off, none⟩) {i : Nat} (hi : i < l.length) (x : Lb) :
    OwnL (((w.setCell ⟨g, off + i * 3, none⟩ (.int .u32 x.hub.toNat)).setCell ⟨g, off + i * 3 + 1, none⟩ (.int .u32 x.next.toNat)).setCell ⟨g, off + i * 3 + 2, none⟩ (.int .u64 x.dist.toNat)) B (.slice A n c) (l.set i x) := by
  have hn : n = l.length := by obtain ⟨A', c', e⟩ := h.rd.form; cases e; rfl
  subst hn
  unfold OwnL OwnG at *
  have hi3 : (i + 1) * 3 ≤ l.length * 3 := Nat.mul_le_mul_right 3 hi
  have h1 := Go.Proofs.Ytfgkmimhibpceaa.Own.set hA h (j := i * 3) (by omega) (.int .u32 x.hub.toNat)
  have h2 := Go.Proofs.Ytfgkmimhibpceaa.Own.set hA h1 (j := i * 3 + 1) (by omega) (.int .u32 x.next.toNat)
  have h3 := Go.Proofs.Ytfgkmimhibpceaa.Own.set hA h2 (j := i * 3 + 2) (by omega) (.int .u64 x.dist.toNat)
  rw [set_flat hi] at h3
  rw [List.length_set]
  simpa [Nat.add_assoc] using h3
set_option maxHeartbeats 4000000 in
theorem putr_any (v : Value) (l : List Lb) (x : Lb) (B : Nat) (w : World) (h : OwnL w B v l) (hn : l.length ≤ 1000000) (hB : B ≤ w.heap.size) (hv : l = [] → v = .slice none 0 0) :
    Calls Try.prog 35 #[v, x.v] w fun e w' => ∃ u, e = .returned u ∧ OwnL w' B u (putL l x) ∧ w.grownBy w' v.ownBlock ∧ (u.ownBlock = v.ownBlock ∨ ∃ k, u.ownBlock = some k ∧ w.heap.size ≤ k) ∧ 0 < (putL l x).length := by
  have HPL : Hid (0 < (putL l x).length) := by
    show 0 < _
    cases l with
    | nil => simp [putL]
    | cons y r => unfold putL; split <;> (try split) <;> (try split) <;> simp
  have HVS : Hid (∀ k, v.ownBlock = some k → k < w.heap.size) := by
    show ∀ k, v.ownBlock = some k → k < w.heap.size
    cases l with
    | nil => rw [hv rfl]; intro k hk; cases hk
    | cons y r => exact h.lt_size (by simp)
  obtain ⟨xh, xn, xd⟩ := x
  obtain ⟨A, c, rfl⟩ := h.rd.form
  have g1 := gr_alloc w (.cells #[.int .u32 xh.toNat, .int .u32 xn.toNat, .int .u64 xd.toNat] 39) none
  have HO := Lib.hid (h.ext g1)
  obtain ⟨g, off, hA, hlc, hcells⟩ := HO.out.at_ lb3
  have HA := Lib.hid hA
  have HC := Lib.hid hcells
  have HBX := Lib.hid (Blk.new w 39 #[.int .u32 xh.toNat, .int .u32 xn.toNat, .int .u64 xd.toNat])
  have b0 := HBX.out.cell 0
  have b1 := HBX.out.cell 1
  have b2 := HBX.out.cell 2
  have G0 := Lib.hid g1
  have hz0 := g1.size
  clear hA hcells h g1 b0 b1 b2 HC hv
  unfold Lb.v
  go_enter Try.func35, Try.ntmps35
  go_wp2
  go_loopw [5] (fun i wr => ∃ k : Nat, k ≤ l.length ∧ i = .int .i64 k ∧ LowTo l ⟨xh, xn, xd⟩ k ∧ (w.alloc (.cells #[.int .u32 xh.toNat, .int .u32 xn.toNat, .int .u64 xd.toNat] 39)).grownBy wr none) (fun i _ => l.length - (intOf i).toNat)
  case atStart => exact ⟨0, by omega, rfl, fun _ _ h => by omega, gr_refl _ _⟩
  case round =>
    obtain ⟨k, hk, rfl, hlow, hg⟩ := hrel
    have HLOW := Lib.hid hlow
    have HOR := Lib.hid (HO.out.ext hg)
    have HBR := Lib.hid (HBX.out.ext hg)
    have HG := Lib.hid hg
    have b0 := HBR.out.cell 0
    have b1 := HBR.out.cell 1
    have b2 := HBR.out.cell 2
    clear hlow hg
    by_cases hlt : k < l.length
    · have := HA.out (by omega)
      subst this
      rcases hy : l[k] with ⟨ya, yb, yc⟩
      obtain ⟨g', off', hA', _, hcells'⟩ := HOR.out.at_ lb3
      obtain ⟨rfl, rfl⟩ : g' = g ∧ off' = off := by have := hA' (by omega); simpa [eq_comm] using this
      obtain ⟨⟨c0, c1, c2⟩, f0, f1, f2⟩ := at6O hcells' hlt hy
      have HY := Lib.hid hy
      clear hcells' hA' hy
      rcases Nat.lt_trichotomy ya.toNat xh.toNat with hh | hh | hh
      · have HN := Lib.hid (HLOW.out.succ hlt (by rw [HY.out]; exact hh))
        go_wp2_with fail
        go_quiet (fail)
        go_wp2
        go_roundw
        case rel => exact ⟨k + 1, by omega, by go_num, HN.out, gr_none HG.out (gr_drewN _ _ _)⟩
        case measure => simp [intOf]; omega
      · have hb : ((ya.toNat : Int) == (xh.toNat : Int)) = true := by simp; omega
        have HSET := Lib.hid fun wx (hx : wr.grownBy wx none) => OwnL.set (HOR.out.ext hx) rfl hlt ⟨xh, xn, xd⟩
        rcases Nat.lt_trichotomy xd.toNat yc.toNat with hd | hd | hd
        · have HP := Lib.hid (putL_set HLOW.out hlt (x := ⟨xh, xn, xd⟩) (by rw [HY.out]; exact hh) (by rw [HY.out, ahd_iff]; exact .inl hd))
          go_wp2_with fail
          go_quiet (fail)
          go_wp2_with fail
          go_quiet (fail)
          go_wp2_with fail
          go_quiet (fail)
          go_wp2
          go_ret
          exact ⟨_, rfl, by rw [HP.out]; exact HSET.out _ (gr_drewN _ _ _), gr_trans (gr_of_none (gr_none G0.out (gr_none HG.out (gr_drewN _ _ _)))) (gr_set3 _ _ _ _ _ _ _ _) (.inl rfl), .inl rfl, HPL.out⟩
        · have hde : ((xd.toNat : Int) == (yc.toNat : Int)) = true := by simp; omega
          by_cases hx : xn.toNat < yb.toNat
          · have HP := Lib.hid (putL_set HLOW.out hlt (x := ⟨xh, xn, xd⟩) (by rw [HY.out]; exact hh) (by rw [HY.out, ahd_iff]; exact .inr ⟨hd, hx⟩))
            have hnl : ¬ xd.toNat < yc.toNat := by omega
            clear hd
            go_wp2_with fail
            go_quiet (fail)
            go_wp2_with fail
            go_quiet (fail)
            go_wp2_with fail
            go_quiet (fail)
            go_wp2
            go_ret
            exact ⟨_, rfl, by rw [HP.out]; exact HSET.out _ (gr_drewN _ _ _), gr_trans (gr_of_none (gr_none G0.out (gr_none HG.out (gr_drewN _ _ _)))) (gr_set3 _ _ _ _ _ _ _ _) (.inl rfl), .inl rfl, HPL.out⟩
          · have HP := Lib.hid (putL_keep HLOW.out hlt (x := ⟨xh, xn, xd⟩) (by rw [HY.out]; exact hh) (by rw [HY.out, ahd_iff]; simp only []; omega))
            have hnl : ¬ xd.toNat < yc.toNat := by omega
            clear hd
            go_wp2_with fail
            go_quiet (fail)
            go_wp2_with fail
            go_quiet (fail)
            go_wp2_with fail
            go_quiet (fail)
            go_wp2
            go_ret
            exact ⟨_, rfl, by rw [HP.out]; exact HOR.out.ext (by first | exact gr_drewN _ _ _ | exact gr_none (gr_none (gr_drewN _ _ _) (gr_drewN _ _ _)) (gr_drewN _ _ _)), gr_of_none (gr_none G0.out (gr_none HG.out (by first | exact gr_drewN _ _ _ | exact gr_none (gr_none (gr_drewN _ _ _) (gr_drewN _ _ _)) (gr_drewN _ _ _)))), .inl rfl, HPL.out⟩
        · have hde : ((xd.toNat : Int) == (yc.toNat : Int)) = false := by simp; omega
          have HP := Lib.hid (putL_keep HLOW.out hlt (x := ⟨xh, xn, xd⟩) (by rw [HY.out]; exact hh) (by rw [HY.out, ahd_iff]; simp only []; omega))
          have hnl : ¬ xd.toNat < yc.toNat := by omega
          go_wp2_with fail
          go_quiet (fail)
          go_wp2_with fail
          go_quiet (fail)
          go_wp2_with fail
          go_quiet (fail)
          go_wp2
          go_ret
          exact ⟨_, rfl, by rw [HP.out]; exact HOR.out.ext (by first | exact gr_drewN _ _ _ | exact gr_none (gr_none (gr_drewN _ _ _) (gr_drewN _ _ _)) (gr_drewN _ _ _)), gr_of_none (gr_none G0.out (gr_none HG.out (by first | exact gr_drewN _ _ _ | exact gr_none (gr_none (gr_drewN _ _ _) (gr_drewN _ _ _)) (gr_drewN _ _ _)))), .inl rfl, HPL.out⟩
      · have hb : ((ya.toNat : Int) == (xh.toNat : Int)) = false := by simp; omega
        have HP := Lib.hid (putL_ins HLOW.out hk (x := ⟨xh, xn, xd⟩) fun _ => by rw [HY.out]; exact hh)
        have hzw : B ≤ wr.heap.size := by have := HG.out.size; simp at this; omega
        go_wp2_with fail
        go_quiet (fail)
        go_wp2_with fail
        go_quiet (fail)
        go_wp2_with (at_builtin; refine wp_app1L ⟨xh, xn, xd⟩ _ rfl rfl (.tmp 70) (.tmp 72) rfl rfl (HOR.out.ext (gr_drewN _ _ none)) wr.heap.size rfl rfl (by omega) (by first | exact hzw | simpa using hzw) ?_; intro v7 w7 h7 g7 a7; have G7 : Hid (wr.grownBy w7 (Value.slice (some ⟨g', off', none⟩) l.length c).ownBlock) := gr_trans (gr_drewN wr _ _) g7 (.inl rfl); have A7 : Hid (v7.ownBlock = (Value.slice (some ⟨g', off', none⟩) l.length c).ownBlock ∨ ∃ k, v7.ownBlock = some k ∧ wr.heap.size ≤ k) := a7; clear g7 a7; have e7 := h7.rd.form; rw [List.length_append] at e7; obtain ⟨A9, c9, rfl⟩ := e7; have H7 := Lib.hid h7; clear h7)
        have e1 : [(⟨xh, xn, xd⟩ : Lb)].length = 1 := rfl
        rw [e1] at H7 A7
        have hwr : w.heap.size < wr.heap.size := by have := HG.out.size; simp at this; omega
        obtain ⟨g9, off9, rfl⟩ := OwnL.base H7.out (by simp)
        have HNB : Hid (w.heap.size ≠ g9) := fun e2 => by
          rcases A7.out with h | ⟨q, h, hq⟩
          · have := HVS.out g9 (by rw [← h]; rfl)
            omega
          · have h := Option.some.inj h
            simp at h
            omega
        have HB7 : Hid (Blk w7 w.heap.size 39 #[.int .u32 xh.toNat, .int .u32 xn.toNat, .int .u64 xd.toNat]) := HBR.out.gr G7.out (fun e => by have := HVS.out _ e; omega)
        have GW : Hid (w.grownBy wr none) := gr_none G0.out HG.out
        clear b0 b1 b2
        go_loopw [6] (fun i wq => ∃ (j : Nat) (z : Lb), k ≤ j ∧ j ≤ l.length ∧ i = .int .i64 j ∧ Hid (OwnL wq B (.slice (some ⟨g9, off9, none⟩) (l.length + 1) c9) (l.take j ++ z :: l.drop j)) ∧ w7.grownBy wq (some g9)) (fun i _ => (intOf i).toNat)
        case atStart => exact ⟨l.length, ⟨xh, xn, xd⟩, hk, Nat.le_refl _, rfl, by rw [List.take_length, List.drop_length]; exact H7, gr_refl _ _⟩
        case round =>
          obtain ⟨j, z, hkj, hj, rfl, ho, hg⟩ := hrel
          by_cases hlt9 : k < j
          · obtain ⟨i, rfl⟩ : ∃ i, j = i + 1 := ⟨j - 1, by omega⟩
            have hil : i < l.length := by omega
            rcases hp : l[i] with ⟨pa, pb, pd⟩
            rcases hq : (l.take (i + 1) ++ z :: l.drop (i + 1))[i + 1]'(by rw [ins_len hj]; omega) with ⟨qa, qb, qd⟩
            obtain ⟨⟨p0, p1, p2⟩, -⟩ := OwnL.at6 ho.out (k := i) (by rw [ins_len hj]; omega) ((ins_at hil _).trans hp)
            obtain ⟨⟨q0, q1, q2⟩, e0, e1, e2⟩ := OwnL.at6 ho.out (k := i + 1) (by rw [ins_len hj]; omega) hq
            have HS := Lib.hid (OwnL.set ho.out rfl (i := i + 1) (by rw [ins_len hj]; omega) l[i])
            rw [ins_step hil, hp] at HS
            clear hp hq ho
            go_wp2
            go_roundw
            case rel => exact ⟨i, _, by omega, by omega, rfl, HS, gr_trans hg (gr_set3 _ _ _ _ _ _ _ _) (.inl rfl)⟩
            case measure => simp [intOf]
          · obtain rfl : k = j := by omega
            have HBQ := Lib.hid (HB7.out.gr hg (by simpa using fun e => HNB.out e.symm))
            have b0 := HBQ.out.cell 0
            have b1 := HBQ.out.cell 1
            have b2 := HBQ.out.cell 2
            rcases hq : (l.take k ++ z :: l.drop k)[k]'(by rw [ins_len hj]; omega) with ⟨qa, qb, qd⟩
            obtain ⟨⟨q0, q1, q2⟩, e0, e1, e2⟩ := OwnL.at6 ho.out (k := k) (by rw [ins_len hj]; omega) hq
            have HS := Lib.hid (OwnL.set ho.out rfl (i := k) (by rw [ins_len hj]; omega) ⟨xh, xn, xd⟩)
            rw [ins_end hj] at HS
            clear hq ho
            have GQ := Lib.hid hg
            clear hg
            go_wp2
            go_ret
            exact ⟨_, rfl, by rw [HP.out]; exact HS.out, gr_own GW.out G7.out (gr_trans GQ.out (gr_set3 _ _ _ _ _ _ _ _) (.inl rfl)) A7.out, by
              rcases A7.out with h | ⟨q, h, hq⟩
              · exact .inl h
              · exact .inr ⟨q, h, by omega⟩, HPL.out⟩
    · have HP := Lib.hid (putL_ins HLOW.out hk (x := ⟨xh, xn, xd⟩) fun h => absurd h hlt)
      have hzw : B ≤ wr.heap.size := by have := HG.out.size; simp at this; omega
      go_wp2_with fail
      go_quiet (fail)
      go_wp2_with fail
      go_quiet (fail)
      go_wp2_with (at_builtin; refine wp_app1L ⟨xh, xn, xd⟩ _ rfl rfl (.tmp 70) (.tmp 72) rfl rfl (HOR.out.ext (gr_drewN _ _ none)) wr.heap.size rfl rfl (by omega) (by first | exact hzw | simpa using hzw) ?_; intro v7 w7 h7 g7 a7; have G7 : Hid (wr.grownBy w7 (Value.slice A l.length c).ownBlock) := gr_trans (gr_drewN wr _ _) g7 (.inl rfl); have A7 : Hid (v7.ownBlock = (Value.slice A l.length c).ownBlock ∨ ∃ k, v7.ownBlock = some k ∧ wr.heap.size ≤ k) := a7; clear g7 a7; have e7 := h7.rd.form; rw [List.length_append] at e7; obtain ⟨A9, c9, rfl⟩ := e7; have H7 := Lib.hid h7; clear h7)
      have e1 : [(⟨xh, xn, xd⟩ : Lb)].length = 1 := rfl
      rw [e1] at H7 A7
      have hwr : w.heap.size < wr.heap.size := by have := HG.out.size; simp at this; omega
      obtain ⟨g9, off9, rfl⟩ := OwnL.base H7.out (by simp)
      have HNB : Hid (w.heap.size ≠ g9) := fun e2 => by
        rcases A7.out with h | ⟨q, h, hq⟩
        · have := HVS.out g9 (by rw [← h]; rfl)
          omega
        · have h := Option.some.inj h
          simp at h
          omega
      have HB7 : Hid (Blk w7 w.heap.size 39 #[.int .u32 xh.toNat, .int .u32 xn.toNat, .int .u64 xd.toNat]) := HBR.out.gr G7.out (fun e => by have := HVS.out _ e; omega)
      have GW : Hid (w.grownBy wr none) := gr_none G0.out HG.out
      clear b0 b1 b2
      go_loopw [6] (fun i wq => ∃ (j : Nat) (z : Lb), k ≤ j ∧ j ≤ l.length ∧ i = .int .i64 j ∧ Hid (OwnL wq B (.slice (some ⟨g9, off9, none⟩) (l.length + 1) c9) (l.take j ++ z :: l.drop j)) ∧ w7.grownBy wq (some g9)) (fun i _ => (intOf i).toNat)
      case atStart => exact ⟨l.length, ⟨xh, xn, xd⟩, hk, Nat.le_refl _, rfl, by rw [List.take_length, List.drop_length]; exact H7, gr_refl _ _⟩
      case round =>
        obtain ⟨j, z, hkj, hj, rfl, ho, hg⟩ := hrel
        by_cases hlt9 : k < j
        · exfalso; omega
        · obtain rfl : k = j := by omega
          have HBQ := Lib.hid (HB7.out.gr hg (by simpa using fun e => HNB.out e.symm))
          have b0 := HBQ.out.cell 0
          have b1 := HBQ.out.cell 1
          have b2 := HBQ.out.cell 2
          rcases hq : (l.take k ++ z :: l.drop k)[k]'(by rw [ins_len hj]; omega) with ⟨qa, qb, qd⟩
          obtain ⟨⟨q0, q1, q2⟩, e0, e1, e2⟩ := OwnL.at6 ho.out (k := k) (by rw [ins_len hj]; omega) hq
          have HS := Lib.hid (OwnL.set ho.out rfl (i := k) (by rw [ins_len hj]; omega) ⟨xh, xn, xd⟩)
          rw [ins_end hj] at HS
          clear hq ho
          have GQ := Lib.hid hg
          clear hg
          go_wp2
          go_ret
          exact ⟨_, rfl, by rw [HP.out]; exact HS.out, gr_own GW.out G7.out (gr_trans GQ.out (gr_set3 _ _ _ _ _ _ _ _) (.inl rfl)) A7.out, by
            rcases A7.out with h | ⟨q, h, hq⟩
            · exact .inl h
            · exact .inr ⟨q, h, by omega⟩, HPL.out⟩
end Go.Proofs.Ytfgkmimhibpceaa
