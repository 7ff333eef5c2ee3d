/-
  What On leaves, file by file: plain.
-/
import Derived.Test.YtipankjajdpiiaaGreatRf
namespace Go.Proofs.YtipankjajdpiiaaGreat
open Go.RowKit Go.Maps
set_option maxRecDepth 100000

/-- how many of the first k marks are set. -/
def cntF (l : List Bool) (k : Nat) : Nat := ((List.range k).filter fun j => l.getD j false).length
/-- the bytes of a file behind its first k marks, p loose sectors ahead of it. -/
def onK (f : Rf) (keep : List Int) (p : Nat) : Nat → List UInt8
  | 0 => f.lasts
  | k + 1 => if f.loose.getD k false = true ∧ keep.contains ((p + cntF f.loose k : Nat) : Int) = true then onB f.now (onK f keep p k) k else onK f keep p k
theorem cntF_succ (l : List Bool) (k : Nat) : cntF l (k + 1) = cntF l k + if l.getD k false = true then 1 else 0 := by
  unfold cntF
  rw [List.range_succ, List.filter_append, List.length_append]
  by_cases h : l.getD k false = true
  · rw [if_pos h, List.filter_cons_of_pos (by exact h)]; rfl
  · rw [if_neg h, List.filter_cons_of_neg (by exact h)]; rfl
theorem looseF_at (f : Rf) {k : Nat} (hk : k < f.loose.length) (h : f.loose.getD k false = true) : (looseF f)[cntF f.loose k]? = some k := by
  unfold looseF cntF
  rw [show f.loose.length = k + (1 + (f.loose.length - k - 1)) from by omega, List.range_add, List.filter_append, List.getElem?_append_right (Nat.le_refl _), Nat.sub_self, show 1 + (f.loose.length - k - 1) = (f.loose.length - k - 1) + 1 from by omega, List.range_succ_eq_map, List.map_cons, Nat.add_zero, List.filter_cons_of_pos (by exact h)]
  rfl
theorem onL_gap {now lasts : List UInt8} {keep : List Int} {ls : List (List UInt8 × Nat)} {s : List UInt8} {i : Nat} (e : ls[i]? = none) : onL now lasts keep ls s (i + 1) = onL now lasts keep ls s i := by
  rw [onL, e]
theorem onL_one {now lasts : List UInt8} {keep : List Int} {ls : List (List UInt8 × Nat)} {s : List UInt8} {i : Nat} {x : List UInt8 × Nat} (e : ls[i]? = some x) : onL now lasts keep ls s (i + 1) = if keep.contains (i : Int) = true ∧ s = x.1 then onB now (onL now lasts keep ls s i) x.2 else onL now lasts keep ls s i := by
  rw [onL, e]
theorem onL_none {now lasts : List UInt8} {keep : List Int} {ls : List (List UInt8 × Nat)} {s : List UInt8} {i : Nat} : ∀ m, (∀ j x, i ≤ j → j < i + m → ls[j]? = some x → s ≠ x.1) → onL now lasts keep ls s (i + m) = onL now lasts keep ls s i
  | 0, _ => rfl
  | m + 1, h => by
    have ih := onL_none (now := now) (lasts := lasts) (keep := keep) m fun j x h1 h2 h3 => h j x h1 (by omega) h3
    show onL now lasts keep ls s ((i + m) + 1) = _
    cases e : ls[i + m]? with
    | none => rw [onL_gap e]; exact ih
    | some x => rw [onL_one e, if_neg fun h9 => h (i + m) x (by omega) (by omega) e h9.2]; exact ih
theorem onL_file {f : Rf} {keep : List Int} {ls : List (List UInt8 × Nat)} {p : Nat} (h0 : onL f.now f.lasts keep ls f.n p = f.lasts) (h : ∀ j k, (looseF f)[j]? = some k → ls[p + j]? = some (f.n, k)) : ∀ k, k ≤ f.loose.length → onL f.now f.lasts keep ls f.n (p + cntF f.loose k) = onK f keep p k
  | 0, _ => h0
  | k + 1, hk => by
    have ih := onL_file h0 h k (by omega)
    rw [cntF_succ]
    by_cases hb : f.loose.getD k false = true
    · rw [if_pos hb]
      show onL f.now f.lasts keep ls f.n ((p + cntF f.loose k) + 1) = _
      rw [onL_one (h _ _ (looseF_at f (by omega) hb)), onK, ih]
      by_cases hc : keep.contains ((p + cntF f.loose k : Nat) : Int) = true
      · rw [if_pos ⟨hc, rfl⟩, if_pos ⟨hb, hc⟩]
      · rw [if_neg fun e => hc e.1, if_neg fun e => hc e.2]
    · rw [if_neg hb, Nat.add_zero, ih]
      rw [onK, if_neg fun e => hb e.1]
theorem looseR_name {L : List Rf} {x : List UInt8 × Nat} (h : x ∈ looseR L) : ∃ f ∈ L, f.n = x.1 := by
  unfold looseR at h
  obtain ⟨f, hf, hx⟩ := List.mem_flatMap.1 h
  obtain ⟨k, _, rfl⟩ := List.mem_map.1 hx
  exact ⟨f, hf, rfl⟩
theorem looseR_split {L : List Rf} {i : Nat} (hi : i < L.length) : looseR L = looseR (L.take i) ++ ((looseF L[i]).map fun k => (L[i].n, k)) ++ looseR (L.drop (i + 1)) := by
  conv => lhs; rw [← List.take_append_drop i L, List.drop_eq_getElem_cons hi]
  unfold looseR
  rw [List.flatMap_append, List.flatMap_cons, List.append_assoc]
/-- what On leaves of a file: its own fold. -/
theorem onL_onK {L : List Rf} (hd : (L.map Rf.n).Nodup) {i : Nat} (hi : i < L.length) (keep : List Int) :
    onL L[i].now L[i].lasts keep (looseR L) L[i].n (looseR L).length = onK L[i] keep (looseR (L.take i)).length L[i].loose.length := by
  have hne : ∀ j, (hj : j < L.length) → j ≠ i → L[i].n ≠ L[j].n := fun j hj hji e => by
    have := (List.getElem_inj (xs := L.map Rf.n) (i := i) (j := j) (h₀ := by rw [List.length_map]; exact hi) (h₁ := by rw [List.length_map]; exact hj) hd).1 (by rw [List.getElem_map, List.getElem_map]; exact e)
    exact hji this.symm
  have hA : ∀ x, x ∈ looseR (L.take i) → L[i].n ≠ x.1 := fun x hx e => by
    obtain ⟨f, hf, h2⟩ := looseR_name hx
    obtain ⟨j, hj, rfl⟩ := List.mem_iff_getElem.1 hf
    rw [List.length_take] at hj
    rw [List.getElem_take] at h2
    exact hne j (by omega) (by omega) (e.trans h2.symm)
  have hC : ∀ x, x ∈ looseR (L.drop (i + 1)) → L[i].n ≠ x.1 := fun x hx e => by
    obtain ⟨f, hf, h2⟩ := looseR_name hx
    obtain ⟨j, hj, rfl⟩ := List.mem_iff_getElem.1 hf
    rw [List.length_drop] at hj
    rw [List.getElem_drop] at h2
    exact hne (i + 1 + j) (by omega) (by omega) (e.trans h2.symm)
  have hs := looseR_split hi
  obtain ⟨ls, hls⟩ : ∃ ls, ls = looseR L := ⟨_, rfl⟩
  rw [← hls] at hs ⊢
  obtain ⟨A, eA⟩ : ∃ A, A = looseR (L.take i) := ⟨_, rfl⟩
  obtain ⟨C, eC⟩ : ∃ C, C = looseR (L.drop (i + 1)) := ⟨_, rfl⟩
  rw [← eA] at hA hs ⊢
  rw [← eC] at hC hs
  have h0 : onL L[i].now L[i].lasts keep ls L[i].n A.length = L[i].lasts := by
    have := onL_none (now := L[i].now) (lasts := L[i].lasts) (keep := keep) (ls := ls) (s := L[i].n) (i := 0) A.length fun j x _ h2 h3 => by
      rw [hs, List.append_assoc, List.getElem?_append_left (by omega)] at h3
      exact hA x (List.mem_of_getElem? h3)
    rw [Nat.zero_add] at this
    exact this
  have h1 := onL_file (keep := keep) h0 (fun j k h => by
    have hj := (List.getElem?_eq_some_iff.1 h).1
    rw [hs, List.append_assoc, List.getElem?_append_right (by omega), Nat.add_sub_cancel_left, List.getElem?_append_left (by rw [List.length_map]; exact hj), List.getElem?_map, h]
    rfl) L[i].loose.length (Nat.le_refl _)
  have hc : cntF L[i].loose L[i].loose.length = (looseF L[i]).length := rfl
  rw [hc] at h1
  have hl : ls.length = A.length + (looseF L[i]).length + C.length := by rw [hs, List.length_append, List.length_append, List.length_map]
  rw [hl, ← h1]
  refine onL_none C.length fun j x h2 h3 h4 => ?_
  rw [hs, List.getElem?_append_right (by rw [List.length_append, List.length_map]; exact h2)] at h4
  exact hC x (List.mem_of_getElem? h4)
end Go.Proofs.YtipankjajdpiiaaGreat

/- On: the store of a file laid anew. -/
namespace Go.Proofs.YtipankjajdpiiaaGreat
open Go.RowKit Go.Maps
set_option maxRecDepth 100000

section
variable {w0 w3 wt : World} {r N c q a i gl offl E cn E2 cl : Nat} {O : Own1} {l : List Rm} {off : Bool} {An Al : Option Addr} {P : List UInt8}
/-- a file laid anew: its bytes, the same as what lasts, and no mark. -/
theorem lit_mem (h : RV w0 w3 r O (some ⟨gl, offl, none⟩) N c l q a off) (hiN : i < N) (hi : i < l.length) (g : w3.grownBy wt none) (h1 : OwnB wt w3.heap.size (.slice An E cn) P) (h2 : OwnB wt w3.heap.size (.slice Al E2 cl) P) (hP : P.length ≤ 16777216) :
    RV w0 ((((wt.setCell ⟨gl, offl + i * 4, none⟩ (.string ⟨l[i].n.toArray⟩)).setCell ⟨gl, offl + i * 4 + 1, none⟩ (.slice An E cn)).setCell ⟨gl, offl + i * 4 + 2, none⟩ (.slice Al E2 cl)).setCell ⟨gl, offl + i * 4 + 3, none⟩ (.slice none 0 0)) r (growO O w3 wt) (some ⟨gl, offl, none⟩) N c (l.set i ⟨l[i].n, .slice An E cn, .slice Al E2 cl, .slice none 0 0, P, P, []⟩) q a off ∧
      Ch O w3 O ((((wt.setCell ⟨gl, offl + i * 4, none⟩ (.string ⟨l[i].n.toArray⟩)).setCell ⟨gl, offl + i * 4 + 1, none⟩ (.slice An E cn)).setCell ⟨gl, offl + i * 4 + 2, none⟩ (.slice Al E2 cl)).setCell ⟨gl, offl + i * 4 + 3, none⟩ (.slice none 0 0)) := by
  obtain ⟨_, _, _, _, _, hgr, hgO, _⟩ := h.cellsA hiN hi
  have hlt : gl < w3.heap.size := (h.inb gl hgO).2
  have hx := (h.ext g |>.grow (wb := w3) h.gr.size).ok l[i] (List.getElem_mem hi)
  have h4 := h.field hiN hi g (j := 0) (u := .string ⟨l[i].n.toArray⟩) (x' := l[i]) (by omega) rfl hx
  rw [List.set_getElem_self] at h4
  have k1 : OwnB (wt.setCell ⟨gl, offl + i * 4, none⟩ (.string ⟨l[i].n.toArray⟩)) w3.heap.size (.slice An E cn) P := Own.gr h1 (gr_setCell wt ⟨gl, offl + i * 4, none⟩ _) fun k e e2 => by
    cases e
    have h5 : w3.heap.size ≤ gl := Own.lt h1 _ e2
    omega
  have k2 : OwnB ((wt.setCell ⟨gl, offl + i * 4, none⟩ (.string ⟨l[i].n.toArray⟩)).setCell ⟨gl, offl + i * 4 + 1, none⟩ (.slice An E cn)) w3.heap.size (.slice Al E2 cl) P := Own.gr (Own.gr h2 (gr_setCell wt ⟨gl, offl + i * 4, none⟩ _) fun k e e2 => by
    cases e
    have h5 : w3.heap.size ≤ gl := Own.lt h2 _ e2
    omega) (gr_setCell _ ⟨gl, offl + i * 4 + 1, none⟩ _) fun k e e2 => by
    cases e
    have h5 : w3.heap.size ≤ gl := Own.lt h2 _ e2
    omega
  have hy4 := h4.ok l[i] (List.getElem_mem hi)
  have h5 : RV w0 ((wt.setCell ⟨gl, offl + i * 4, none⟩ (.string ⟨l[i].n.toArray⟩)).setCell ⟨gl, offl + i * 4 + 1, none⟩ (.slice An E cn)) r (growO O w3 wt) (some ⟨gl, offl, none⟩) N c (l.set i { l[i] with nv := .slice An E cn, now := P }) q a off := by
    obtain ⟨gl', offl', e3, -, -, -, -, -, hput⟩ := h4.at_ hiN
    cases e3
    exact hput hi 1 (.slice An E cn) { l[i] with nv := .slice An E cn, now := P } (by omega) rfl (RmOk.mk3 k1.rd hy4.lasts hy4.loose (offB_new h h1 (by omega)) hy4.offL hy4.offS ⟨hx.small.1, hP, hx.small.2.2⟩)
  have hil : i < (l.set i { l[i] with nv := .slice An E cn, now := P }).length := by rw [List.length_set]; exact hi
  have hy5 := h5.ok _ (List.getElem_mem hil)
  rw [List.getElem_set_self] at hy5
  have h6 : RV w0 (((wt.setCell ⟨gl, offl + i * 4, none⟩ (.string ⟨l[i].n.toArray⟩)).setCell ⟨gl, offl + i * 4 + 1, none⟩ (.slice An E cn)).setCell ⟨gl, offl + i * 4 + 2, none⟩ (.slice Al E2 cl)) r (growO O w3 wt) (some ⟨gl, offl, none⟩) N c (l.set i { l[i] with nv := .slice An E cn, now := P, lv := .slice Al E2 cl, lasts := P }) q a off := by
    obtain ⟨gl', offl', e3, -, -, -, -, -, hput⟩ := h5.at_ hiN
    cases e3
    have := hput hil 2 (.slice Al E2 cl) { l[i] with nv := .slice An E cn, now := P, lv := .slice Al E2 cl, lasts := P } (by omega) (by rw [List.getElem_set_self]; rfl) (RmOk.mk3 hy5.now k2.rd hy5.loose hy5.offN (offB_new h h2 (by omega)) hy5.offS ⟨hx.small.1, hP, hP, hx.small.2.2.2⟩)
    rw [List.set_set] at this
    exact this
  have hil6 : i < (l.set i { l[i] with nv := .slice An E cn, now := P, lv := .slice Al E2 cl, lasts := P }).length := by rw [List.length_set]; exact hi
  have hy6 := h6.ok _ (List.getElem_mem hil6)
  rw [List.getElem_set_self] at hy6
  have h7 : RV w0 ((((wt.setCell ⟨gl, offl + i * 4, none⟩ (.string ⟨l[i].n.toArray⟩)).setCell ⟨gl, offl + i * 4 + 1, none⟩ (.slice An E cn)).setCell ⟨gl, offl + i * 4 + 2, none⟩ (.slice Al E2 cl)).setCell ⟨gl, offl + i * 4 + 3, none⟩ (.slice none 0 0)) r (growO O w3 wt) (some ⟨gl, offl, none⟩) N c (l.set i ⟨l[i].n, .slice An E cn, .slice Al E2 cl, .slice none 0 0, P, P, []⟩) q a off := by
    obtain ⟨gl', offl', e3, -, -, -, -, -, hput⟩ := h6.at_ hiN
    cases e3
    have := hput hil6 3 (.slice none 0 0) ⟨l[i].n, .slice An E cn, .slice Al E2 cl, .slice none 0 0, P, P, []⟩ (by omega) (by rw [List.getElem_set_self]; rfl) (RmOk.mk3 hy6.now hy6.lasts (Rd.nil _ 1) hy6.offN hy6.offL (fun q e => by cases e) ⟨hx.small.1, hP, hP, Nat.zero_le _⟩)
    rw [List.set_set] at this
    exact this
  have c1 : Ch O w3 O wt := Ch.ext g
  have go : ∀ {wa : World} (j : Nat) (v : Value), Ch O w3 O wa → Ch O w3 O (wa.setCell ⟨gl, offl + i * 4 + j, none⟩ v) := fun {wa} j v hc => hc.trans (Ch.of_gr (gr_setCell wa ⟨gl, offl + i * 4 + j, none⟩ v) fun b e => by cases e; exact hgO)
  exact ⟨h7, go 3 _ (go 2 _ (go 1 _ (go 0 _ c1)))⟩
end
end Go.Proofs.YtipankjajdpiiaaGreat

/- The document's disk: On, the walk. -/
namespace Go.Proofs.YtipankjajdpiiaaGreat
open Go.RowKit Go.Maps
set_option maxRecDepth 100000
set_option maxHeartbeats 400000

theorem rd_bool {w : World} {A : Option Addr} {n c : Nat} {l : List Bool} (h : Rd w 1 (.slice A n c) n (blL l)) {k : Nat} (hk : k < l.length) : ∃ g off, A = some ⟨g, off, none⟩ ∧ n ≤ c ∧ k < n ∧ w.cell? ⟨g, off + k, none⟩ = some (.bool l[k]) := by
  obtain ⟨hl, A', c', g, off, e, hn, hc, hA0, hA, hx⟩ := h
  cases e
  have hl' : l.length = n := by rw [← Nat.mul_one n, ← hl]; unfold blL; rw [List.length_map]
  have hA' := hA (by omega)
  subst hA'
  refine ⟨g, off, rfl, hn, by omega, ?_⟩
  rw [hx k (by omega)]
  unfold blL
  rw [List.getElem?_map, List.getElem?_eq_getElem hk]
  rfl
theorem onK_len (f : Rf) (keep : List Int) (p : Nat) : ∀ k, f.lasts.length ≤ (onK f keep p k).length ∧ (onK f keep p k).length ≤ max f.now.length f.lasts.length
  | 0 => ⟨Nat.le_refl _, by unfold onK; omega⟩
  | k + 1 => by
    have ih := onK_len f keep p k
    rw [onK]
    split
    · unfold onB overZ
      simp only [List.length_append, List.length_take, List.length_drop, List.length_replicate]
      unfold secTo
      omega
    · exact ih
theorem onB_pad {now b : List UInt8} {k : Nat} : overZ (padN b (min (64 * (k + 1)) now.length)) (64 * k) ((now.drop (64 * k)).take (min (64 * (k + 1)) now.length - 64 * k)) = onB now b k := by
  unfold onB padN secTo
  rw [show (k + 1) * 64 = 64 * (k + 1) from by omega, show k * 64 = 64 * k from by omega]
theorem looseR_take {L : List Rf} {i : Nat} (hi : i < L.length) : (looseR (L.take (i + 1))).length = (looseR (L.take i)).length + cntF L[i].loose L[i].loose.length := by
  rw [List.take_succ_eq_append_getElem hi]
  unfold looseR
  rw [List.flatMap_append, List.length_append, List.flatMap_cons, List.flatMap_nil, List.append_nil, List.length_map]
  rfl
theorem own_empty2 (w : World) (x : Obj) (B : Nat) (hB : B ≤ w.heap.size + 1) : OwnB ((w.alloc x).alloc (.cells #[] 5)) B (.slice (some ⟨w.heap.size + 1, 0, none⟩) 0 0) [] := by
  have := own_empty (w.alloc x) B (by rw [World.size_alloc]; exact hB)
  rw [World.size_alloc] at this
  exact this
theorem getD_at (l : List Bool) {k : Nat} (hk : k < l.length) : l.getD k false = l[k] := by rw [List.getD_eq_getElem?_getD, List.getElem?_eq_getElem hk]; rfl
section
variable {w0 w w' wb wx wy : World} {r N c q a i : Nat} {O O1 : Own1} {A : Option Addr} {l : List Rm} {off : Bool} {R : RD}
set_option maxHeartbeats 8000000 in
theorem ron_any (h : RS w0 w r O R) (hnd : (R.L.map Rf.n).Nodup) (hlo : ∀ f ∈ R.L, ∀ k : Nat, f.loose.getD k false = true → 64 * k < f.now.length) (hoff : R.off = true) {kv : Value} {keep : List Int} (hk : RdI w kv keep) (hko : ∀ O1 w1, Ch O w O1 w1 → RdI w1 kv keep) (hkl : keep.length ≤ 1000000000) : Calls Tryz.prog 35 #[.pointer (some ⟨r, 0, none⟩), kv] w fun e w' => e = .returned (.int .i64 0) ∧ RSn w0 r O (R.on keep) w w' := by
  obtain ⟨A, N, c, l, h, hl⟩ := h
  obtain ⟨_, Ak, ck, _, _, ekv, _⟩ := id hk
  obtain ⟨nk, hnk⟩ : ∃ nk, nk = keep.length := ⟨_, rfl⟩
  rw [← hnk] at ekv
  subst ekv
  have hNL : R.L.length = N := by rw [← hl, List.length_map]; exact h.len
  have hlimN := h.lim.2.2
  have H := Lib.hid h
  have HL := Lib.hid hl
  have HND := Lib.hid hnd
  have HLO := Lib.hid hlo
  have HKO := Lib.hid hko
  have HNL := Lib.hid hNL
  have HA1 : Hid (RV w0 w r O A N c l R.q R.armed true) := by have := H.out; rw [hoff] at this; exact this
  have b3 : w.cell? ⟨r, 3, none⟩ = some (.bool true) := HA1.out.self.cell 3
  have HPL : Hid (∀ i, (looseR (R.L.take i)).length ≤ 262144 * i) := fun i => by
    have key : ∀ (L : List Rf), (∀ f ∈ L, f.loose.length ≤ 262144) → (looseR L).length ≤ 262144 * L.length := by
      intro L
      induction L with
      | nil => intro _; exact Nat.zero_le _
      | cons f t ih =>
        intro hf
        have h1 := ih fun x hx => hf x (List.mem_cons_of_mem _ hx)
        have h2 := hf f (by simp)
        unfold looseR at h1 ⊢
        rw [List.flatMap_cons, List.length_append, List.length_map]
        have h3 : (looseF f).length ≤ f.loose.length := by unfold looseF; exact Nat.le_trans (List.length_filter_le _ _) (by rw [List.length_range]; exact Nat.le_refl _)
        rw [List.length_cons]; omega
    refine Nat.le_trans (key _ fun f hf => ?_) (by rw [List.length_take]; omega)
    have hm := List.mem_of_mem_take hf
    rw [← HL.out] at hm
    obtain ⟨x, hx, rfl⟩ := List.mem_map.1 hm
    exact (H.out.ok x hx).small.2.2.2
  clear h hl hnd hk hko hlo hoff H hNL hnk
  go_enter Tryz.func35, Tryz.ntmps35
  go_wp2_with fail
  go_loopw [5, 6] (fun pv iv wr => ∃ (i : Nat) (O' : Own1) (l' : List Rm), i ≤ N ∧ pv = .int .i64 ((looseR (R.L.take i)).length : Nat) ∧ iv = .int .i64 (i : Nat) ∧ RV w0 wr r O' A N c l' R.q R.armed true ∧ l'.map Rm.rf = (R.L.take i).map (litR keep R.L) ++ R.L.drop i ∧ Ch O w O' wr) (fun _ iv _ => N - (intOf iv).toNat)
  case atStart => exact ⟨0, O, l, Nat.zero_le _, rfl, rfl, HA1.out, by rw [List.take_zero]; exact HL.out, Ch.refl _ _⟩
  case round =>
    obtain ⟨i, O', l', hiN, rfl, rfl, hv, hl', hch⟩ := hrel
    rename World => wo
    have HV := Lib.hid hv
    have HL' := Lib.hid hl'
    have HCH := Lib.hid hch
    have c0 : wo.cell? ⟨r, 0, none⟩ = some (.slice A N c) := hv.self.cell 0
    obtain ⟨P0, hP0⟩ : ∃ P0, P0 = (looseR (R.L.take i)).length := ⟨_, rfl⟩
    have hPb := HPL.out i
    rw [← hP0] at hPb ⊢
    have HP0 := Lib.hid hP0
    clear hv hl' hch hP0
    by_cases hlt : i < N
    · have hi : i < l'.length := by rw [HV.out.len]; exact hlt
      have hiL : i < R.L.length := by rw [HNL.out]; exact hlt
      obtain ⟨gl, offl, rfl, -, -, -, -, -, -⟩ := HV.out.at_ hlt
      obtain ⟨y0, y1, y2, y3, hfz, hgr, hgO, hNc⟩ := HV.out.cellsA hlt hi
      have hok := HV.out.ok l'[i] (List.getElem_mem hi)
      have hXR : l'[i].rf = R.L[i] := by
        have h5 : (l'.map Rm.rf)[i]? = some R.L[i] := by
          rw [HL'.out, List.getElem?_append_right (by rw [List.length_map, List.length_take]; omega), List.length_map, List.length_take, Nat.min_eq_left (by omega), Nat.sub_self, List.getElem?_drop, Nat.add_zero, List.getElem?_eq_getElem hiL]
        rw [List.getElem?_map, List.getElem?_eq_getElem hi] at h5
        exact Option.some.inj h5
      obtain ⟨X, hX⟩ : ∃ X, X = l'[i] := ⟨_, rfl⟩
      obtain ⟨F, hF⟩ : ∃ F, F = R.L[i] := ⟨_, rfl⟩
      rw [← hX] at y0 y1 y2 y3 hok
      rw [← hX, ← hF] at hXR
      obtain ⟨A1, d1, e1⟩ := RdB.form hok.now
      obtain ⟨A2, d2, e2⟩ := RdB.form hok.lasts
      obtain ⟨_, A3, d3, _, _, e3, hc3, _⟩ := hok.loose
      obtain ⟨M1, hM1⟩ : ∃ M, M = X.now.length := ⟨_, rfl⟩
      obtain ⟨M2, hM2⟩ : ∃ M, M = X.lasts.length := ⟨_, rfl⟩
      obtain ⟨M3, hM3⟩ : ∃ M, M = X.loose.length := ⟨_, rfl⟩
      have hsm := hok.small
      have hr1 := hok.now
      have hr2 := hok.lasts
      have hr3 := hok.loose
      rw [e1] at y1 hr1
      rw [e2] at y2 hr2
      rw [e3] at y3 hr3
      rw [← hM1] at y1 hsm
      rw [← hM2] at y2 hsm
      rw [← hM3] at y3 hsm hr3
      have hi0 : (0 : Int) ≤ (i : Int) := by omega
      have hi1 : (i : Int) < (N : Int) := by omega
      have HX := Lib.hid hX
      have HF := Lib.hid hF
      have HXR := Lib.hid hXR
      obtain ⟨nm, hnm⟩ : ∃ nm, nm = X.n := ⟨_, rfl⟩
      rw [← hnm] at y0
      obtain ⟨w3, hw3⟩ : ∃ w3, w3 = wo.alloc (.cells #[.string ⟨nm.toArray⟩, .slice A1 M1 d1, .slice A2 M2 d2, .slice A3 M3 d3] 100) := ⟨_, rfl⟩
      have hg3 : wo.grownBy w3 none := by rw [hw3]; exact gr_alloc _ _ none
      have hbk : Blk w3 wo.heap.size 100 #[.string ⟨nm.toArray⟩, .slice A1 M1 d1, .slice A2 M2 d2, .slice A3 M3 d3] := by rw [hw3]; exact Blk.new wo _ _
      have hbc := hbk.cell
      rw [hw3] at hbc
      have HBK := Lib.hid hbk
      have G3 := Lib.hid hg3
      have HW3 := Lib.hid hw3
      have hne1 : gl ≠ wo.heap.size := by have := (HV.out.inb gl hgO).2; omega
      have HR1 : Hid (RdB wo (.slice A1 M1 d1) X.now) := by show RdB _ _ _; rw [hM1]; exact hr1
      have HR2 : Hid (RdB wo (.slice A2 M2 d2) X.lasts) := by show RdB _ _ _; rw [hM2]; exact hr2
      have HR3 : Hid (Rd wo 1 (.slice A3 M3 d3) M3 (blL X.loose)) := hr3
      have HMM : Hid (M1 = X.now.length ∧ M2 = X.lasts.length ∧ M3 = X.loose.length) := ⟨hM1, hM2, hM3⟩
      have HNM := Lib.hid hnm
      clear hok e1 e2 e3 hr1 hr2 hr3 hM1 hM2 hM3 hX hnm hg3 hbk hw3 hF hXR
      have b2z : (wo.alloc (.cells #[.string ⟨nm.toArray⟩, .slice A1 M1 d1, .slice A2 M2 d2, .slice A3 M3 d3] 100)).cell? ⟨wo.heap.size, 2, none⟩ = some (.slice A2 M2 d2) := by rw [← HW3.out]; exact HBK.out.cell 2
      have HM2 : Hid (M2 = X.lasts.length) := HMM.out.2.1
      have HS3 : Hid (w3.heap.size = wo.heap.size + 1) := by show _ = _; rw [HW3.out, World.size_alloc]
      go_wp2_with (at_builtin; refine wp_appB (m := X.lasts) (l := []) rfl (.tmp 35) (.tmp 37) rfl rfl (own_empty2 wo _ (wo.heap.size + 1) (Nat.le_refl _)) rfl (HR2.out.ext (gr_none (gr_alloc _ _ none) (gr_alloc _ _ none))) (by rw [← HM2.out]; show 0 + M2 ≤ _; omega) (by rw [World.size_alloc, World.size_alloc]; omega) ?_; rintro v5 w5 o5 g5 -; obtain ⟨A5, c5, ev5⟩ := RdB.form (OwnB.rd o5); rw [List.nil_append, ← HM2.out] at ev5; subst ev5; rw [List.nil_append, ← HS3.out] at o5; rw [← HW3.out] at g5; have g35 : w3.grownBy w5 none := gr_trans (gr_alloc _ _ none) g5 (.inr fun q e => by cases e; exact Nat.le_of_eq HS3.out); have O5 := Lib.hid o5; have G5 := Lib.hid g35; clear o5 g5 g35)
      go_loopw [5, 8, 9] (fun pv bv kv wv => ∃ (k pl : Nat) (b : List UInt8) (Ab : Option Addr) (cb : Nat), k ≤ M3 ∧ kv = .int .i64 (k : Nat) ∧ pv = .int .i64 (pl : Nat) ∧ pl = P0 + cntF X.loose k ∧ bv = .slice Ab b.length cb ∧ b = onK F keep P0 k ∧ OwnB wv w3.heap.size (.slice Ab b.length cb) b ∧ w3.grownBy wv none) (fun _ _ kv _ => M3 - (intOf kv).toNat)
      case atStart => exact ⟨0, P0, X.lasts, A5, c5, Nat.zero_le _, rfl, rfl, rfl, by rw [← HM2.out], by rw [← HXR.out]; rfl, by rw [← HM2.out]; exact O5.out, G5.out⟩
      case round =>
        obtain ⟨k, pl, b, Ab, cb, hk, rfl, rfl, hpl, rfl, hb, ho, hg⟩ := hrel
        rename World => wv
        have HO := Lib.hid ho
        have HG := Lib.hid hg
        have HB := Lib.hid hb
        have HPK := Lib.hid hpl
        have hblen : b.length ≤ 16777216 := by
          have h5 := (onK_len F keep P0 k).2
          have h6 : F.now.length = M1 := by rw [← HXR.out, HMM.out.1]; rfl
          have h7 : F.lasts.length = M2 := by rw [← HXR.out, HMM.out.2.1]; rfl
          rw [hb]; omega
        have v3 : wv.cell? ⟨wo.heap.size, 3, none⟩ = some (.slice A3 M3 d3) := hg.cell (HBK.out.cell 3) (by simp)
        have v1 : wv.cell? ⟨wo.heap.size, 1, none⟩ = some (.slice A1 M1 d1) := hg.cell (HBK.out.cell 1) (by simp)
        have hcf : cntF X.loose k ≤ k := by unfold cntF; exact Nat.le_trans (List.length_filter_le _ _) (by rw [List.length_range]; exact Nat.le_refl _)
        have hplb : pl ≤ 262144 * i + k := by omega
        clear ho hg hb hpl b2z hbc y0 y1 y2 y3 c0 hcf
        by_cases hkl2 : k < M3
        · have hkx : k < X.loose.length := by rw [← HMM.out.2.2]; exact hkl2
          have hki : (k : Int) < (M3 : Int) := by omega
          have hk0 : (0 : Int) ≤ (k : Int) := by omega
          obtain ⟨g3, o3, eA3, hnd3, _, cb3⟩ := rd_bool (HR3.out.ext (gr_none G3.out HG.out)) hkx
          subst eA3
          have HGD : Hid (F.loose.getD k false = X.loose[k]) := by show _ = _; rw [← HXR.out]; exact getD_at X.loose hkx
          have HCS : Hid (cntF X.loose (k + 1) = cntF X.loose k + if X.loose.getD k false = true then 1 else 0) := cntF_succ _ _
          have HGX : Hid (X.loose.getD k false = X.loose[k]) := getD_at X.loose hkx
          have HON : Hid (onK F keep P0 (k + 1) = if F.loose.getD k false = true ∧ keep.contains ((P0 + cntF F.loose k : Nat) : Int) = true then onB F.now (onK F keep P0 k) k else onK F keep P0 k) := rfl
          have HFL : Hid (F.loose = X.loose) := by show _ = _; rw [← HXR.out]; rfl
          have HFN : Hid (F.now = X.now) := by show _ = _; rw [← HXR.out]; rfl
          cases hbit : X.loose[k] with
          | false =>
            rw [hbit] at cb3
            have HN1 : Hid (b = onK F keep P0 (k + 1)) := by show _ = _; rw [HON.out, if_neg (by rw [HGD.out, hbit]; simp)]; exact HB.out
            have HN2 : Hid (pl = P0 + cntF X.loose (k + 1)) := by show _ = _; rw [HCS.out, if_neg (by rw [HGX.out, hbit]; simp), Nat.add_zero]; exact HPK.out
            clear hbit
            go_wp2_with fail
            go_roundw
            case rel => exact ⟨k + 1, pl, b, Ab, cb, by omega, by go_num, rfl, HN2.out, rfl, HN1.out, HO.out, HG.out⟩
            case measure => simp [intOf] <;> omega
          | true =>
            rw [hbit] at cb3
            have HN2 : Hid (pl + 1 = P0 + cntF X.loose (k + 1)) := by show _ = _; rw [HCS.out, if_pos (by rw [HGX.out, hbit]), ← Nat.add_assoc, ← HPK.out]
            have HLK : Hid (64 * k < M1) := by
              have h5 := HLO.out F (by rw [HF.out]; exact List.getElem_mem hiL) k (by rw [HGD.out, hbit])
              rw [HFN.out, ← HMM.out.1] at h5
              exact h5
            have HHAS := Lib.hid (rhas_any (.slice Ak nk ck) keep (pl : Int) wv (((HKO.out _ _ HCH.out).ext G3.out).ext HG.out) hkl)
            cases hmem : memI keep (pl : Int) with
            | false =>
              have HN1 : Hid (b = onK F keep P0 (k + 1)) := by
                show _ = _
                rw [HON.out, if_neg, HB.out]
                rw [HFL.out, ← HPK.out]
                intro h5
                have h6 : memI keep (pl : Int) = true := h5.2
                rw [hmem] at h6; cases h6
              rw [hmem] at HHAS
              clear hbit hmem
              go_wp2_with fail
              refine HHAS.out.mono ?_
              rintro e w7 ⟨rfl, rfl⟩
              go_wp2_with fail
              go_roundw
              case rel => exact ⟨k + 1, pl + 1, b, Ab, cb, by omega, by go_num, by go_num, HN2.out, rfl, HN1.out, HO.out, HG.out⟩
              case measure => simp [intOf] <;> omega
            | true =>
              have HN1 : Hid (onB X.now b k = onK F keep P0 (k + 1)) := by
                show _ = _
                rw [HON.out, if_pos, HFN.out, HB.out]
                rw [HFL.out, ← HPK.out]
                exact ⟨by rw [HGX.out, hbit], hmem⟩
              rw [hmem] at HHAS
              clear hbit hmem
              obtain ⟨E, hE⟩ : ∃ E, E = min (64 * (k + 1)) M1 := ⟨_, rfl⟩
              have hmE : min ((64 : Int) * ((k : Int) + 1)) (M1 : Int) = (E : Int) := by omega
              have hEM : E ≤ M1 := by omega
              have hkE : 64 * k < E := by have := HLK.out; omega
              have hEE := Lib.hid hE
              go_wp2_with fail
              refine HHAS.out.mono ?_
              rintro e w7 ⟨rfl, rfl⟩
              clear hE
              go_wp2_with fail
              go_loopw [8] (fun bv wz => ∃ (n : Nat) (An : Option Addr) (cn : Nat), b.length ≤ n ∧ n ≤ max b.length E ∧ bv = .slice An n cn ∧ OwnB wz w3.heap.size (.slice An n cn) (padN b n) ∧ w3.grownBy wz none) (fun bv _ => max b.length E - lenV bv)
              case atStart => exact ⟨b.length, Ab, cb, Nat.le_refl _, by omega, rfl, by rw [padN_self]; exact HO.out, HG.out⟩
              case round =>
                obtain ⟨n, An, cn, hn1, hn2, rfl, hoz, hgz⟩ := hrel
                rename World => wz
                have HOZ := Lib.hid hoz
                have HGZ := Lib.hid hgz
                clear hoz hgz
                by_cases hnE : n < E
                · have hnEi : (n : Int) < (E : Int) := by omega
                  have HLP : Hid ((padN b n).length = n) := padN_len hn1
                  go_wp2_with (at_builtin; refine wp_app1B 0 0 rfl rfl (.tmp 66) (.tmp 67) rfl rfl HOZ.out rfl (by rw [HLP.out]; omega) HGZ.out.size ?_; rintro v6 w6 o6 g6 -; obtain ⟨A6, c6, ev6⟩ := RdB.form (OwnB.rd o6); rw [List.length_append, HLP.out] at ev6; subst ev6; have O6 := Lib.hid o6; have G6 : Hid (w3.grownBy w6 none) := gr_trans HGZ.out g6 (.inr fun q e => Own.lt HOZ.out q e); clear o6 g6)
                  go_roundw
                  case rel => exact ⟨n + 1, A6, c6, by omega, by omega, rfl, by rw [← padN_succ hn1]; exact O6.out, G6.out⟩
                  case measure => simp [lenV]; omega
                · have hnEi : ¬ (n : Int) < (E : Int) := by omega
                  have HPE : Hid (padN b n = padN b E) := by
                    show _ = _
                    unfold padN
                    congr 2
                    omega
                  have HPL2 : Hid ((padN b E).length = n) := by
                    show _ = _
                    rw [← HPE.out]; exact padN_len hn1
                  have HO4 : Hid (OwnB wz w3.heap.size (.slice An n cn) (padN b E)) := by show OwnB _ _ _ _; rw [← HPE.out]; exact HOZ.out
                  obtain ⟨D, hD⟩ : ∃ D, D = (X.now.drop (64 * k)).take (E - 64 * k) := ⟨_, rfl⟩
                  have HDL : Hid (D.length = E - 64 * k) := by
                    show _ = _
                    rw [hD, List.length_take, List.length_drop, ← HMM.out.1]; omega
                  have HD := Lib.hid hD
                  have z1 : wz.cell? ⟨wo.heap.size, 1, none⟩ = some (.slice A1 M1 d1) := HGZ.out.cell (HBK.out.cell 1) (by simp)
                  have hEn : E ≤ n := by omega
                  clear hD hn2 HOZ hn1
                  go_wp2_with fail
                  go_loopw [11] (fun jv wy => ∃ j : Nat, 64 * k ≤ j ∧ j ≤ E ∧ jv = .int .i64 (j : Nat) ∧ OwnB wy w3.heap.size (.slice An n cn) (overZ (padN b E) (64 * k) (D.take (j - 64 * k))) ∧ w3.grownBy wy none) (fun jv _ => E - (intOf jv).toNat)
                  case atStart => exact ⟨64 * k, Nat.le_refl _, Nat.le_of_lt hkE, by go_num, by rw [Nat.sub_self, List.take_zero, overZ_nil]; exact HO4.out, HGZ.out⟩
                  case round =>
                    obtain ⟨j, hj1, hj2, rfl, hoy, hgy⟩ := hrel
                    rename World => wy
                    by_cases hjE : j < E
                    · have hjEi : (j : Int) < (E : Int) := by omega
                      have hj0 : (0 : Int) ≤ (j : Int) := by omega
                      have hjM : (j : Int) < (M1 : Int) := by omega
                      have hjn : (j : Int) < (n : Int) := by omega
                      have hjx : j < X.now.length := by rw [← HMM.out.1]; omega
                      obtain ⟨gb, ob, eb, hlb2, cb1⟩ := rd_byte (HR1.out.ext (gr_none G3.out hgy)) hjx
                      subst eb
                      have hDj : j - 64 * k < D.length := by rw [HDL.out]; omega
                      have hun : X.now[j] = D[j - 64 * k] := by
                        have h5 : D[j - 64 * k]? = some X.now[j] := by
                          rw [HD.out, List.getElem?_take, if_pos (by omega), List.getElem?_drop, show 64 * k + (j - 64 * k) = j from by omega, List.getElem?_eq_getElem hjx]
                        rw [List.getElem?_eq_getElem hDj] at h5
                        exact (Option.some.inj h5).symm
                      obtain ⟨u, hu⟩ : ∃ u, u = X.now[j] := ⟨_, rfl⟩
                      rw [← hu] at cb1 hun
                      have hpl : 64 * k + D.length ≤ (padN b E).length := by rw [HPL2.out, HDL.out]; omega
                      have htl : (D.take (j - 64 * k)).length = j - 64 * k := by rw [List.length_take]; omega
                      obtain ⟨gn, on, en, hBn, _, hncn, cvn0, cfn, hset⟩ := hoy.at_ (k := j) (by rw [overZ_len2 (by rw [htl]; omega), HPL2.out]; omega)
                      subst en
                      obtain ⟨uu, cvn⟩ : ∃ uu, wy.cell? ⟨gn, on + j, none⟩ = some uu := ⟨_, cvn0⟩
                      clear cvn0
                      have hset2 := hset u
                      have hstep := overZ_step (P := padN b E) (b := D) (p := 64 * k) hDj hpl
                      rw [show 64 * k + (j - 64 * k) = j from by omega, ← hun] at hstep
                      rw [hstep] at hset2
                      have HS := Lib.hid hset2
                      have HGS : Hid (w3.grownBy (wy.setCell ⟨gn, on + j, none⟩ (.int .u8 u.toNat)) none) := gr_trans hgy (gr_setCell wy ⟨gn, on + j, none⟩ _) (.inr fun q e => by cases e; exact hBn)
                      have z2 : wy.cell? ⟨wo.heap.size, 1, none⟩ = some (.slice (some ⟨gb, ob, none⟩) M1 d1) := hgy.cell (HBK.out.cell 1) (by simp)
                      clear hset2 hset hstep hoy hgy hun hu hpl htl
                      go_wp2_with fail
                      go_roundw
                      case rel => exact ⟨j + 1, by omega, by omega, by go_num, by rw [show j + 1 - 64 * k = j - 64 * k + 1 from by omega]; exact HS.out, HGS.out⟩
                      case measure => simp [intOf] <;> omega
                    · obtain rfl : j = E := by omega
                      have hjEi : ¬ (j : Int) < (j : Int) := by omega
                      have HFIN : Hid (OwnB wy w3.heap.size (.slice An n cn) (onB X.now b k)) := by
                        show OwnB _ _ _ _
                        have h5 := onB_pad (now := X.now) (b := b) (k := k)
                        rw [← HMM.out.1, ← hEE.out, ← HD.out] at h5
                        rw [List.take_of_length_le (by rw [HDL.out]; exact Nat.le_refl _), h5] at hoy
                        exact hoy
                      have HLN : Hid ((onB X.now b k).length = n) := by
                        show _ = _
                        have h5 := onB_pad (now := X.now) (b := b) (k := k)
                        rw [← HMM.out.1, ← hEE.out, ← HD.out] at h5
                        rw [← h5, overZ_len2 (by rw [HDL.out, HPL2.out]; omega), HPL2.out]
                      have HGY := Lib.hid hgy
                      clear hoy hgy
                      go_wp2_with fail
                      go_roundw
                      case rel => exact ⟨k + 1, pl + 1, onB X.now b k, An, cn, by omega, by go_num, by go_num, HN2.out, by rw [HLN.out], HN1.out, by rw [HLN.out]; exact HFIN.out, HGY.out⟩
                      case measure => simp [intOf] <;> omega
        · obtain rfl : k = M3 := by omega
          have hki : ¬ (k : Int) < (k : Int) := by omega
          have v0 : wv.cell? ⟨wo.heap.size, 0, none⟩ = some (.string ⟨nm.toArray⟩) := HG.out.cell (HBK.out.cell 0) (by simp)
          have w0c : wv.cell? ⟨r, 0, none⟩ = some (.slice (some ⟨gl, offl, none⟩) N c) := (HV.out.ext (gr_none G3.out HG.out)).self.cell 0
          clear v1
          have HLB : Hid (b.length ≤ 16777216) := hblen
          obtain ⟨nb, hnb⟩ : ∃ nb, nb = b.length := ⟨_, rfl⟩
          have HNB := Lib.hid hnb
          rw [← hnb] at HO hblen ⊢
          have HCELL : Hid (∀ wx, w3.grownBy wx none → (wx.cell? ⟨r, 0, none⟩ = some (.slice (some ⟨gl, offl, none⟩) N c) ∧ wx.cell? ⟨wo.heap.size, 0, none⟩ = some (.string ⟨nm.toArray⟩)) ∧ (∀ j, j < 4 → wx.frozen? ⟨gl, offl + i * 4 + j, none⟩ = false) ∧ (∃ u, wx.cell? ⟨gl, offl + i * 4, none⟩ = some u) ∧ (∃ u, wx.cell? ⟨gl, offl + i * 4 + 1, none⟩ = some u) ∧ (∃ u, wx.cell? ⟨gl, offl + i * 4 + 2, none⟩ = some u) ∧ ∃ u, wx.cell? ⟨gl, offl + i * 4 + 3, none⟩ = some u) := fun wx g => by
            have h5 := (HV.out.ext (gr_none G3.out g)).cellsA hlt hi
            exact ⟨⟨(HV.out.ext (gr_none G3.out g)).self.cell 0, g.cell (HBK.out.cell 0) (by simp)⟩, h5.2.2.2.2.1, ⟨_, h5.1⟩, ⟨_, h5.2.1⟩, ⟨_, h5.2.2.1⟩, ⟨_, h5.2.2.2.1⟩⟩
          clear hnb
          go_wp2_with fail
          go_region_held3 (fun w' => w'.cell? ⟨r, 0, none⟩ = some (.slice (some ⟨gl, offl, none⟩) N c) ∧ w'.cell? ⟨wo.heap.size, 0, none⟩ = some (.string ⟨nm.toArray⟩)) (first | exact k6 | go_keep) (first
            | (refine step_appB1 (B := w3.heap.size) (by rfl) (l := []) (m := b) (.tmp 94) (.tmp 95) (by rfl) (by rfl) (own_atB0 _ _ HG.out.size) (by rfl) (OwnB.rd (OwnB.drew (HO.out.ext (gr_alloc _ _ none)))) (by rw [← HNB.out]; show 0 + nb ≤ _; omega) (by show _ ≤ (wv.alloc _).heap.size; rw [World.size_alloc]; have := HG.out.size; omega) ?_; rintro v6 w6 o6 g6; obtain ⟨A6, c6, ev6⟩ := RdB.form (OwnB.rd o6); rw [List.nil_append, ← HNB.out] at ev6; subst ev6; have g36 : w3.grownBy w6 none := gr_trans (gr_none HG.out (gr_none (gr_alloc _ _ none) (gr_drew _ none))) g6 (.inr fun q e => by cases e; exact HG.out.size); obtain ⟨k6, f6, ⟨q0, z0⟩, ⟨q1, z1⟩, ⟨q2, z2⟩, ⟨q3, z3⟩⟩ := HCELL.out w6 g36; have f60 := f6 0 (by omega); have f61 := f6 1 (by omega); have f62 := f6 2 (by omega); have f63 := f6 3 (by omega); have O6 := Lib.hid o6; have G36 := Lib.hid g36; have gv6 : wv.grownBy w6 none := gr_trans (gr_none (gr_alloc _ _ none) (gr_drew _ none)) g6 (.inr fun q e => by cases e; exact Nat.le_refl _); have OB6 := Lib.hid (Own.ext HO.out gv6); clear o6 g6 g36 gv6))
          obtain ⟨hrv, hch⟩ := lit_mem (HV.out.ext G3.out) hlt hi G36.out OB6.out O6.out HLB.out
          rw [← HX.out, ← HNM.out] at hrv hch
          have HRV := Lib.hid hrv
          have HFR : Hid (l'.map Rm.rf = (R.L.take i).map (litR keep R.L) ++ R.L.drop i) := HL'.out
          have HC9 : Hid (Ch O w (growO O' w3 w6) ((((w6.setCell ⟨gl, offl + i * 4, none⟩ (.string ⟨nm.toArray⟩)).setCell ⟨gl, offl + i * 4 + 1, none⟩ (.slice Ab nb cb)).setCell ⟨gl, offl + i * 4 + 2, none⟩ (.slice A6 nb c6)).setCell ⟨gl, offl + i * 4 + 3, none⟩ (.slice none 0 0))) := by
            have hc := (HCH.out.trans (Ch.ext G3.out)).trans hch
            exact ⟨hc.os, hc.tape, hc.output, hc.size, hc.block, growO_free (fun i hi h0 => HCH.out.free i hi h0) (Nat.le_trans HCH.out.size G3.out.size)⟩
          have HLT : Hid ((l'.set i ⟨nm, .slice Ab nb cb, .slice A6 nb c6, .slice none 0 0, b, b, []⟩).map Rm.rf = (R.L.take (i + 1)).map (litR keep R.L) ++ R.L.drop (i + 1)) := by
            show _ = _
            have h5 := onL_onK HND.out hiL keep
            rw [← HF.out, ← HP0.out] at h5
            have h6 : F.loose.length = k := by rw [← HXR.out, HMM.out.2.2]; rfl
            rw [h6, ← HB.out] at h5
            have h7 : litR keep R.L R.L[i] = ⟨nm, b, b, []⟩ := by
              unfold litR
              rw [← HF.out]
              dsimp only
              rw [h5, ← HXR.out, HNM.out]; rfl
            rw [List.map_set, HFR.out, List.take_succ_eq_append_getElem hiL, List.map_append, List.map_cons, List.map_nil, h7]
            have hlen : ((R.L.take i).map (litR keep R.L)).length = i := by rw [List.length_map, List.length_take]; omega
            rw [List.set_append_right _ _ (by rw [hlen]; exact Nat.le_refl _), hlen, Nat.sub_self, List.drop_eq_getElem_cons hiL, List.set_cons_zero, List.append_assoc]
            rfl
          have HPN : Hid (pl = (looseR (R.L.take (i + 1))).length) := by
            show _ = _
            rw [looseR_take hiL, ← HP0.out, ← HF.out, HPK.out, ← HXR.out]
            have h6 : X.rf.loose = X.loose := rfl
            rw [h6, ← HMM.out.2.2]
          clear hrv hch
          go_wp2_with fail
          go_roundw
          case rel => exact ⟨i + 1, _, _, by omega, by rw [← HPN.out], by go_num, HRV.out, HLT.out, HC9.out⟩
          case measure => simp [intOf] <;> omega
    · obtain rfl : i = N := by omega
      have hli : ¬ (i : Int) < (i : Int) := by omega
      have hc3 : wo.cell? ⟨r, 3, none⟩ = some (.bool true) := HV.out.self.cell 3
      have hc2 : wo.cell? ⟨r, 2, none⟩ = some (.int .i64 (R.armed : Int)) := HV.out.self.cell 2
      have hf := HV.out.self.frozen
      have HB9 : Hid (RV w0 ((wo.setCell ⟨r, 3, none⟩ (.bool false)).setCell ⟨r, 2, none⟩ (.int .i64 ((0 : Nat) : Int))) r O' A i c l' R.q 0 false) := by
        refine HV.out.num (gr_trans (gr_setCell _ _ _) (gr_setCell _ _ _) (.inl rfl)) ?_ ⟨HV.out.lim.1, by omega⟩
        simpa using (HV.out.self.set 3 (.bool false)).set 2 (.int .i64 ((0 : Nat) : Int))
      have HLL : Hid (l'.map Rm.rf = (R.on keep).L) := by
        show _ = R.L.map (litR keep R.L)
        have h5 := HL'.out
        rw [List.take_of_length_le (by rw [HNL.out]; exact Nat.le_refl _), List.drop_of_length_le (by rw [HNL.out]; exact Nat.le_refl _), List.append_nil] at h5
        exact h5
      have HCF : Hid (Ch O w O' ((wo.setCell ⟨r, 3, none⟩ (.bool false)).setCell ⟨r, 2, none⟩ (.int .i64 ((0 : Nat) : Int)))) := (HCH.out.trans (Ch.of_gr (gr_setCell _ ⟨r, 3, none⟩ _) fun b e => by cases e; exact HV.out.me)).trans (Ch.of_gr (gr_setCell _ ⟨r, 2, none⟩ _) fun b e => by cases e; exact HV.out.me)
      go_wp2_with fail
      go_ret
      exact ⟨rfl, O', ⟨A, i, c, l', HB9.out, HLL.out⟩, HCF.out⟩
end
end Go.Proofs.YtipankjajdpiiaaGreat
