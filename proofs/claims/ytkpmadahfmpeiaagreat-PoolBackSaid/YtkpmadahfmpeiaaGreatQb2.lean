/-
  PoolBack: what is done to the list of files, plain; append onto lists of files and of pages.
-/
import Derived.Test.YtkpmadahfmpeiaaGreatQb1
namespace Go.Proofs.YtkpmadahfmpeiaaGreat
open Go.RowKit Go.Maps
set_option maxRecDepth 100000
set_option maxHeartbeats 400000

def Wf (F : List Fz) : Prop := (namesF F).Nodup ∧ ∀ n ∈ namesF F, rightB n = true
theorem PF.wf {w0 w : World} {d p m : Nat} {O : Own1} {F : List Fz} {L : List (List UInt8)} (h : PF w0 d p O F L m w) : Wf F := by
  obtain ⟨Q, S, -, h2, -⟩ := h
  obtain ⟨G, hG, rfl⟩ := h2.ex
  have e : namesF (G.map Ge.fz) = G.map fun x => x.fi.name := by unfold namesF; rw [List.map_map]; rfl
  refine ⟨by rw [e]; exact hG.nodup, fun n hn => ?_⟩
  rw [e] at hn
  obtain ⟨x, hx, rfl⟩ := List.mem_map.1 hn
  exact (hG.ok x hx).right
/-- all pages together are at most so many as things were done. -/
def sumF (F : List Fz) : Nat := (F.map fun x => x.pages.length).sum
theorem PF.sum {w0 w : World} {d p m : Nat} {O : Own1} {F : List Fz} {L : List (List UInt8)} (h : PF w0 d p O F L m w) : sumF F ≤ m := by
  obtain ⟨Q, S, -, h2, -⟩ := h
  obtain ⟨G, hG, rfl⟩ := h2.ex
  have e : sumF (G.map Ge.fz) = sumP G := by unfold sumF sumP; rw [List.map_map]; rfl
  rw [e]; exact hG.total.1
theorem sumF_step {F : List Fz} {i : Nat} (h : i < F.length) : sumF (F.take (i + 1)) = sumF (F.take i) + F[i].pages.length := by
  unfold sumF
  rw [List.take_succ_eq_append_getElem h, List.map_append, List.sum_append]
  simp
theorem sumF_le (F : List Fz) (i : Nat) : sumF (F.take i) ≤ sumF F := by
  have e : sumF F = sumF (F.take i) + sumF (F.drop i) := by
    unfold sumF
    rw [← List.sum_append, ← List.map_append, List.take_append_drop]
  omega
theorem names_l (l : List Bk) : namesF (l.map Bk.fz) = l.map Bk.n := by unfold namesF; rw [List.map_map]; rfl
section
variable {l : List Bk} {n b : List UInt8} {i K : Nat}
theorem find_l : ∀ {l : List Bk} {i : Nat}, (l.map Bk.n).Nodup → ∀ (hi : i < l.length), (l.map Bk.fz).find? (fun x => x.name == l[i].n) = some l[i].fz
  | a :: t, 0, _, _ => by
    rw [List.map_cons, List.find?_cons, show (a.fz.name == (a :: t)[0].n) = true from by simp [Bk.fz]]; rfl
  | a :: t, i + 1, h, hi => by
    rw [List.map_cons, List.nodup_cons] at h
    have hi2 : i < t.length := by simpa using hi
    have hne : a.n ≠ t[i].n := fun e => h.1 (e ▸ List.mem_map.2 ⟨t[i], List.getElem_mem hi2, rfl⟩)
    rw [List.map_cons, List.find?_cons, show (a.fz.name == (a :: t)[i + 1].n) = false from by simpa [Bk.fz] using hne]
    exact find_l h.2 hi2
theorem ix_has (hw : Wf (l.map Bk.fz)) (hi : i < l.length) (hn : l[i].n = n) : aErr (l.map Bk.fz) n = 0 ∧ aPg (l.map Bk.fz) n = l[i].L.map Prod.snd ∧ rightB n = true ∧ (Fg (l.map Bk.fz) n).isSome = true := by
  obtain ⟨h1, h2⟩ := hw
  rw [names_l] at h1 h2
  have hr : rightB n = true := h2 n (hn ▸ List.mem_map.2 ⟨_, List.getElem_mem hi, rfl⟩)
  have hf : Fg (l.map Bk.fz) n = some (l[i].L.map Prod.snd) := by
    unfold Fg
    rw [← hn, find_l h1 hi]; rfl
  refine ⟨?_, ?_, hr, by rw [hf]; rfl⟩
  · unfold aErr
    rw [hr, hf]; rfl
  · unfold aPg
    rw [hf]; rfl
theorem ix_no (h : ∀ x ∈ l, x.n ≠ n) : aErr (l.map Bk.fz) n ≠ 0 ∧ (Fg (l.map Bk.fz) n).isSome = false := by
  have hf : Fg (l.map Bk.fz) n = none := by
    unfold Fg
    rw [Option.map_eq_none_iff, List.find?_eq_none]
    intro y hy
    obtain ⟨x, hx, rfl⟩ := List.mem_map.1 hy
    simpa [Bk.fz] using h x hx
  refine ⟨?_, by rw [hf]; rfl⟩
  unfold aErr
  rw [hf]
  split <;> simp
theorem drop_l : ∀ {l : List Bk} {i : Nat}, (l.map Bk.n).Nodup → ∀ (hi : i < l.length), (l.map Bk.fz).filter (fun x => !(x.name == l[i].n)) = (l.take i ++ l.drop (i + 1)).map Bk.fz
  | a :: t, 0, h, _ => by
    rw [List.map_cons, List.nodup_cons] at h
    rw [List.map_cons, List.filter_cons, if_neg (by simp [Bk.fz])]
    simp only [List.take_zero, List.nil_append, List.drop_succ_cons, List.drop_zero]
    rw [List.filter_eq_self]
    intro y hy
    obtain ⟨x, hx, rfl⟩ := List.mem_map.1 hy
    have hne : x.n ≠ a.n := fun e => h.1 (e ▸ List.mem_map.2 ⟨x, hx, rfl⟩)
    simpa [Bk.fz] using hne
  | a :: t, i + 1, h, hi => by
    rw [List.map_cons, List.nodup_cons] at h
    have hi2 : i < t.length := by simpa using hi
    have hne : a.n ≠ t[i].n := fun e => h.1 (e ▸ List.mem_map.2 ⟨t[i], List.getElem_mem hi2, rfl⟩)
    rw [List.map_cons, List.filter_cons, if_pos (by simpa [Bk.fz] using hne), List.take_succ_cons, List.drop_succ_cons, List.cons_append, List.map_cons]
    congr 1
    exact drop_l h.2 hi2
theorem put_l {b : List UInt8} {K : Nat} : ∀ {l : List Bk} {i : Nat}, (l.map Bk.n).Nodup → ∀ (hi : i < l.length) {s : Value} {L' : List (Value × List UInt8)}, L'.map Prod.snd = setP (l[i].L.map Prod.snd) K b → (l.map Bk.fz).map (Fz.put l[i].n K b) = (l.set i ⟨l[i].n, s, L'⟩).map Bk.fz
  | a :: t, 0, h, _, s, L', hL => by
    rw [List.map_cons, List.nodup_cons] at h
    rw [List.set_cons_zero, List.map_cons, List.map_cons, List.map_cons]
    have e1 : Fz.put a.n K b a.fz = Bk.fz ⟨a.n, s, L'⟩ := by
      unfold Fz.put
      rw [if_pos (show a.fz.name = a.n from rfl)]
      show (⟨a.n, setP (a.L.map Prod.snd) K b⟩ : Fz) = ⟨a.n, L'.map Prod.snd⟩
      rw [hL]; rfl
    have e2 : (t.map Bk.fz).map (Fz.put a.n K b) = t.map Bk.fz := by
      rw [List.map_map]
      refine List.map_congr_left fun x hx => ?_
      have hne : x.n ≠ a.n := fun e => h.1 (e ▸ List.mem_map.2 ⟨x, hx, rfl⟩)
      show (if x.fz.name = a.n then _ else x.fz) = x.fz
      exact if_neg hne
    show Fz.put a.n K b a.fz :: (t.map Bk.fz).map (Fz.put a.n K b) = Bk.fz ⟨a.n, s, L'⟩ :: t.map Bk.fz
    rw [e1, e2]
  | a :: t, i + 1, h, hi, s, L', hL => by
    rw [List.map_cons, List.nodup_cons] at h
    have hi2 : i < t.length := by simpa using hi
    have hne : a.n ≠ t[i].n := fun e => h.1 (e ▸ List.mem_map.2 ⟨t[i], List.getElem_mem hi2, rfl⟩)
    rw [List.set_cons_succ, List.map_cons, List.map_cons, List.map_cons]
    have e1 : Fz.put t[i].n K b a.fz = a.fz := by
      unfold Fz.put
      exact if_neg hne
    have e2 := put_l h.2 hi2 (s := s) (L' := L') hL
    show Fz.put t[i].n K b a.fz :: (t.map Bk.fz).map (Fz.put t[i].n K b) = a.fz :: (t.set i ⟨t[i].n, s, L'⟩).map Bk.fz
    rw [e1, e2]
theorem ix_cases {z : Int} (h : IxOf l n z) : (∃ j : Nat, z = (j : Int) ∧ ∃ hj : j < l.length, l[j].n = n) ∨ (z = -1 ∧ ∀ x ∈ l, x.n ≠ n) := h
theorem create_cases {z : Int} (hw : Wf (l.map Bk.fz)) (hz : IxOf l n z) : (z = -1 ∧ aCreate (l.map Bk.fz) n = (l.map Bk.fz, 1)) ∨ (∃ j : Nat, z = (j : Int) ∧ aCreate (l.map Bk.fz) n = (l.map Bk.fz, 4)) ∨ (z = -1 ∧ aCreate (l.map Bk.fz) n = (l.map Bk.fz ++ [⟨n, []⟩], 0)) := by
  unfold aCreate
  rcases hz with ⟨j, e, hj, hn⟩ | ⟨e, hno⟩
  · obtain ⟨-, -, hr, hs⟩ := ix_has hw hj hn
    rw [hr, hs]
    exact .inr (.inl ⟨j, e, rfl⟩)
  · rw [(ix_no hno).2]
    cases rightB n with
    | false => exact .inl ⟨e, rfl⟩
    | true => exact .inr (.inr ⟨e, rfl⟩)
theorem drop_cases {z : Int} (hw : Wf (l.map Bk.fz)) (hz : IxOf l n z) : (∃ j : Nat, z = (j : Int) ∧ j < l.length ∧ aDrop (l.map Bk.fz) n = ((l.take j ++ l.drop (j + 1)).map Bk.fz, 0)) ∨ (z = -1 ∧ ∃ e : Nat, e ≠ 0 ∧ aDrop (l.map Bk.fz) n = (l.map Bk.fz, e)) := by
  unfold aDrop
  rcases hz with ⟨j, e, hj, hn⟩ | ⟨e, hno⟩
  · obtain ⟨h0, -⟩ := ix_has hw hj hn
    have hd := hw.1
    rw [names_l] at hd
    refine .inl ⟨j, e, hj, ?_⟩
    rw [if_neg (by simpa using h0), ← hn, drop_l hd hj]
  · have h0 := (ix_no hno).1
    exact .inr ⟨e, _, h0, by rw [if_pos h0]⟩
theorem read_cases {z : Int} (hw : Wf (l.map Bk.fz)) (hz : IxOf l n z) (k : Int) : (∃ j : Nat, z = (j : Int) ∧ ∃ hj : j < l.length, (∃ e : Nat, e ≠ 0 ∧ (k < 0 ∨ (l[j].L.length : Int) ≤ k) ∧ aRead (l.map Bk.fz) n k = ([], e)) ∨ ∃ K : Nat, k = (K : Int) ∧ ∃ hK : K < l[j].L.length, aRead (l.map Bk.fz) n k = (l[j].L[K].2, 0)) ∨ (z = -1 ∧ ∃ e : Nat, e ≠ 0 ∧ aRead (l.map Bk.fz) n k = ([], e)) := by
  unfold aRead
  rcases hz with ⟨j, e, hj, hn⟩ | ⟨e, hno⟩
  · obtain ⟨h0, hp, -⟩ := ix_has hw hj hn
    refine .inl ⟨j, e, hj, ?_⟩
    rw [if_neg (by simpa using h0), hp, List.length_map]
    by_cases h1 : k < 0
    · exact .inl ⟨1, by omega, .inl h1, by rw [if_pos h1]⟩
    · rw [if_neg h1]
      by_cases h2 : (l[j].L.length : Int) ≤ k
      · exact .inl ⟨3, by omega, .inr h2, by rw [if_pos h2]⟩
      · rw [if_neg h2]
        refine .inr ⟨k.toNat, by omega, by omega, ?_⟩
        rw [List.getD_eq_getElem?_getD, List.getElem?_map, List.getElem?_eq_getElem (by omega)]; rfl
  · have h0 := (ix_no hno).1
    exact .inr ⟨e, _, h0, by rw [if_pos h0]⟩
theorem write_cases {z : Int} (hw : Wf (l.map Bk.fz)) (hz : IxOf l n z) (k : Int) (b : List UInt8) : (∃ j : Nat, z = (j : Int) ∧ ∃ hj : j < l.length, (∃ e : Nat, e ≠ 0 ∧ (k < 0 ∨ (0 ≤ k ∧ (l[j].L.length : Int) < k) ∨ (0 ≤ k ∧ k ≤ (l[j].L.length : Int) ∧ 240 < b.length)) ∧ aWrite (l.map Bk.fz) n k b = (l.map Bk.fz, e)) ∨ ∃ K : Nat, k = (K : Int) ∧ K ≤ l[j].L.length ∧ b.length ≤ 240 ∧ (aWrite (l.map Bk.fz) n k b).2 = 0 ∧ ∀ (s : Value) (L' : List (Value × List UInt8)), L'.map Prod.snd = setP (l[j].L.map Prod.snd) K b → aWrite (l.map Bk.fz) n k b = ((l.set j ⟨l[j].n, s, L'⟩).map Bk.fz, 0)) ∨ (z = -1 ∧ ∃ e : Nat, e ≠ 0 ∧ aWrite (l.map Bk.fz) n k b = (l.map Bk.fz, e)) := by
  unfold aWrite
  rcases hz with ⟨j, e, hj, hn⟩ | ⟨e, hno⟩
  · obtain ⟨h0, hp, -⟩ := ix_has hw hj hn
    have hd := hw.1
    rw [names_l] at hd
    refine .inl ⟨j, e, hj, ?_⟩
    by_cases h1 : k < 0
    · refine .inl ?_
      by_cases h9 : 240 < b.length
      · exact ⟨9, by omega, .inl h1, by rw [if_pos h9]⟩
      · exact ⟨1, by omega, .inl h1, by rw [if_neg h9, if_neg (by simpa using h0), if_pos (.inl h1)]⟩
    · by_cases h2 : (l[j].L.length : Int) < k
      · refine .inl ?_
        by_cases h9 : 240 < b.length
        · exact ⟨9, by omega, .inr (.inl ⟨by omega, h2⟩), by rw [if_pos h9]⟩
        · exact ⟨1, by omega, .inr (.inl ⟨by omega, h2⟩), by rw [if_neg h9, if_neg (by simpa using h0), if_pos (.inr (by rw [hp, List.length_map]; exact h2))]⟩
      · by_cases h9 : 240 < b.length
        · exact .inl ⟨9, by omega, .inr (.inr ⟨by omega, by omega, h9⟩), by rw [if_pos h9]⟩
        · refine .inr ⟨k.toNat, by omega, by omega, by omega, ?_, fun s L' hL => ?_⟩
          · rw [if_neg h9, if_neg (by simpa using h0), if_neg (by rw [hp, List.length_map]; omega)]
          · rw [if_neg h9, if_neg (by simpa using h0), if_neg (by rw [hp, List.length_map]; omega), ← hn, put_l hd hj (s := s) hL]
  · have h0 := (ix_no hno).1
    refine .inr ⟨e, ?_⟩
    by_cases h9 : 240 < b.length
    · exact ⟨9, by omega, by rw [if_pos h9]⟩
    · exact ⟨_, h0, by rw [if_neg h9, if_pos h0]⟩
theorem pages_cases {z : Int} (hw : Wf (l.map Bk.fz)) (hz : IxOf l n z) : (∃ j : Nat, z = (j : Int) ∧ ∃ hj : j < l.length, aErr (l.map Bk.fz) n = 0 ∧ (aPg (l.map Bk.fz) n).length = l[j].L.length) ∨ z = -1 := by
  rcases hz with ⟨j, e, hj, hn⟩ | ⟨e, hno⟩
  · obtain ⟨h0, hp, -⟩ := ix_has hw hj hn
    exact .inl ⟨j, e, hj, h0, by rw [hp, List.length_map]⟩
  · exact .inr e
theorem ix_lt (h : IxOf l n ((i : Nat) : Int)) : ∃ hi : i < l.length, l[i].n = n := by
  rcases h with ⟨j, e, hj, hn⟩ | ⟨e, -⟩
  · obtain rfl : i = j := by omega
    exact ⟨hj, hn⟩
  · omega
end
section
variable {w wb w' : World} {n m : Nat} {v v' : Value}
theorem App1.blk (h : App1 w w' n m v v') {q : Nat} (hq : Go.Proofs.YtkpmadahfmpeiaaGreat.blk v' = some q) : Go.Proofs.YtkpmadahfmpeiaaGreat.blk v = some q ∨ w.heap.size ≤ q := by
  rcases h with ⟨A, c, rfl, rfl, -⟩ | ⟨k, e, hk, -⟩
  · refine .inl ?_
    cases A with
    | none => cases hq
    | some a => exact hq
  · have : v'.ownBlock = some q := blk_ownF hq
    rw [e] at this
    cases this
    exact .inr hk
theorem App1.gr (h : App1 w w' n m v v') (g : wb.grownBy w none) (hv : ∀ q, v.ownBlock = some q → wb.heap.size ≤ q) : wb.grownBy w' none := by
  rcases h with ⟨A, c, rfl, rfl, k⟩ | ⟨k, -, -, k2⟩
  · exact gr_trans g k (.inr fun q e => hv q e)
  · exact gr_none g k2
/-- slices of a file's pages. -/
def PgV (w : World) (B : Nat) (v : Value) (L : List (Value × List UInt8)) : Prop := Own w B 1 v L.length (L.map Prod.fst)
theorem own_emptyV (w : World) (B : Nat) (hB : B ≤ w.heap.size) : PgV (w.alloc (.cells #[] 33)) B (.slice (some ⟨w.heap.size, 0, none⟩) 0 0) [] :=
  own_lit w B 1 0 0 #[] _ (0, 0) (.inl (by simp)) rfl (Nat.le_refl _) (Nat.zero_le _) hB
theorem own_emptyK (w : World) (B : Nat) (hB : B ≤ w.heap.size) : OwnG Bk.enc 2 (w.alloc (.cells #[] 43)) B (.slice (some ⟨w.heap.size, 0, none⟩) 0 0) [] :=
  own_lit w B 2 0 0 #[] _ (0, 0) (.inl (by simp)) rfl (Nat.le_refl _) (Nat.zero_le _) hB
/-- append(v, x...), pages. -/
theorem wp_appV {ops : Array Oper} {rest : List Oper} {o : Oper} {a : Act} {Q : Exit → Act → World → Prop} {w : World} (hgd : o.guard = none) (s0 x0 : Operand)
    (ho : o.op = .call { callee := .builtin .append, args := #[s0, x0], argTypes := #[41, 41] }) {B : Nat} {v x : Value} {L M : List (Value × List UInt8)} (hs : a.eval s0 = v) (hown : PgV w B v L)
    (hx : a.eval x0 = x) (hr : Rd w 1 x M.length (M.map Prod.fst)) (h1 : ∀ y ∈ M, y.1.oneCell' = true) (hn : L.length + M.length ≤ 1000000000) (hB : B ≤ w.heap.size)
    (h : ∀ v' w', PgV w' B v' (L ++ M) → App1 w w' L.length M.length v v' → wpList Tryz.prog ops Q rest (a.put o.dst v') w') :
    wpList Tryz.prog ops Q (o :: rest) a w :=
  wp_appS (P := Tryz.prog) w hgd s0 x0 41 ho B 33 _ 1 24 Tryz.underlying41 Tryz.infoBb rfl (by omega) v L.length (L.map Prod.fst) hs hown x M.length (M.map Prod.fst) hx hr (fun u hu => by obtain ⟨y, hy, rfl⟩ := List.mem_map.1 hu; exact h1 y hy) (by unfold maxLen; omega) (by omega) hB
    fun v' w' h2 h3 => h v' w' (by unfold PgV; rw [List.length_append, List.map_append]; exact h2) h3
/-- append(l, x...), files. -/
theorem wp_appK {ops : Array Oper} {rest : List Oper} {o : Oper} {a : Act} {Q : Exit → Act → World → Prop} {w : World} (hgd : o.guard = none) (s0 x0 : Operand)
    (ho : o.op = .call { callee := .builtin .append, args := #[s0, x0], argTypes := #[32, 32] }) {B : Nat} {v x : Value} {l m : List Bk} (hs : a.eval s0 = v) (hown : OwnG Bk.enc 2 w B v l)
    (hx : a.eval x0 = x) (hr : Rd w 2 x m.length (m.flatMap Bk.enc)) (h1 : ∀ y ∈ m, y.s.oneCell' = true) (hn : l.length + m.length ≤ 1000000000) (hB : B ≤ w.heap.size)
    (h : ∀ v' w', OwnG Bk.enc 2 w' B v' (l ++ m) → App1 w w' l.length m.length v v' → wpList Tryz.prog ops Q rest (a.put o.dst v') w') :
    wpList Tryz.prog ops Q (o :: rest) a w :=
  wp_appS (P := Tryz.prog) w hgd s0 x0 32 ho B 43 _ 2 40 Tryz.underlying32 Tryz.infoBk rfl (by omega) v l.length (l.flatMap Bk.enc) hs hown x m.length (m.flatMap Bk.enc) hx hr (fun u hu => by
    obtain ⟨y, hy, hu⟩ := List.mem_flatMap.1 hu
    simp [Bk.enc] at hu
    rcases hu with rfl | rfl
    · rfl
    · exact h1 y hy) (by unfold maxLen; omega) (by omega) hB
    fun v' w' h2 h3 => h v' w' (by unfold OwnG; rw [List.length_append, List.flatMap_append]; exact h2) h3
theorem bk_take : ∀ (l : List Bk) (j : Nat), (l.flatMap Bk.enc).take (j * 2) = (l.take j).flatMap Bk.enc
  | [], j => by simp
  | a :: t, 0 => by simp
  | a :: t, j + 1 => by
    rw [List.take_succ_cons, List.flatMap_cons, List.flatMap_cons, ← bk_take t j, Nat.add_mul, List.take_append, bk2, List.take_of_length_le (by rw [bk2]; omega)]
    congr 2
theorem bk_drop : ∀ (l : List Bk) (j : Nat), (l.flatMap Bk.enc).drop (j * 2) = (l.drop j).flatMap Bk.enc
  | [], j => by simp
  | a :: t, 0 => by simp
  | a :: t, j + 1 => by
    rw [List.drop_succ_cons, List.flatMap_cons, ← bk_drop t j, Nat.add_mul, List.drop_append, bk2, List.drop_of_length_le (by rw [bk2]; omega), List.nil_append]
    congr 1
theorem rd_takeK {A : Option Addr} {c : Nat} {l : List Bk} (h : RdG Bk.enc 2 w (.slice A l.length c) l) {j : Nat} (hj : j ≤ l.length) : Rd w 2 (.slice A j c) (l.take j).length ((l.take j).flatMap Bk.enc) := by
  have h2 : Rd w 2 (.slice A l.length c) l.length (l.flatMap Bk.enc) := h
  have := h2.cut (i := 0) (j := j) (by omega) hj
  rw [Nat.zero_mul, List.drop_zero, bk_take, Nat.sub_zero, Nat.sub_zero] at this
  have e : cutA A c 0 2 = A := by unfold cutA; cases A <;> simp [Addr.add]
  rw [e] at this
  rw [show (l.take j).length = j from by rw [List.length_take]; omega]
  exact this
theorem rd_dropK {A : Option Addr} {c : Nat} {l : List Bk} (h : RdG Bk.enc 2 w (.slice A l.length c) l) {j : Nat} (hj : j ≤ l.length) : Rd w 2 (.slice (cutA A c j 2) (l.length - j) (c - j)) (l.drop j).length ((l.drop j).flatMap Bk.enc) := by
  have h2 : Rd w 2 (.slice A l.length c) l.length (l.flatMap Bk.enc) := h
  have hl : (l.flatMap Bk.enc).length = l.length * 2 := h2.1
  have := h2.cut (i := j) (j := l.length) hj (Nat.le_refl _)
  rw [List.take_of_length_le (by omega), bk_drop] at this
  rw [show (l.drop j).length = l.length - j from List.length_drop]
  exact this
theorem BkL.one {w0 : World} {O : Own1} {l : List Bk} (h : BkL w0 w O v l) : ∀ y ∈ l, y.s.oneCell' = true := fun y hy => by
  obtain ⟨_, A, c, _, _, e, _⟩ := (h.ok y hy).rd
  rw [e]; rfl
/-- the pool stays, whatever is written into the list. -/
theorem PF.farE {w0 w1 : World} {d p m : Nat} {O : Own1} {F : List Fz} {L : List (List UInt8)} {l : List Bk} (h : PF w0 d p O F L m w) (hb : BkL w0 w O v l) (he : Ext w w1 v v') : PF w0 d p O F L m w1 := by
  obtain ⟨r, g, hr1, -⟩ := he
  exact (sta_pf w0 d p F L m).far h g fun k e => ⟨hb.off k (hr1 k e), (Own.blk_lt hb.own (by omega) (hr1 k e)).1⟩
/-- append([]file{}, l[:j]...). -/
theorem wp_takeK {w0 : World} {O : Own1} {ops : Array Oper} {rest : List Oper} {o : Oper} {a : Act} {Q : Exit → Act → World → Prop} {l : List Bk} {A : Option Addr} {c j : Nat} (hj : j ≤ l.length) (hb : BkL w0 w O (.slice A l.length c) l) (hgd : o.guard = none) (s0 x0 : Operand)
    (ho : o.op = .call { callee := .builtin .append, args := #[s0, x0], argTypes := #[32, 32] }) (g : Nat) (hs : a.eval s0 = .slice (some ⟨g, 0, none⟩) 0 0) (hg : g = w.heap.size) (hx : a.eval x0 = .slice A j c) (hB : w0.heap.size ≤ w.heap.size) (hn : l.length ≤ 1000000)
    (k : ∀ A7 c7 w7, OwnG Bk.enc 2 w7 w0.heap.size (.slice A7 j c7) (l.take j) → w.grownBy w7 none → (∀ q, (Value.slice A7 j c7).ownBlock = some q → w.heap.size ≤ q) → wpList Tryz.prog ops Q rest (a.put o.dst (.slice A7 j c7)) w7) :
    wpList Tryz.prog ops Q (o :: rest) a (w.alloc (.cells #[] 43)) := by
  subst hg
  refine wp_appK (l := []) (m := l.take j) hgd s0 x0 ho hs (own_emptyK _ _ hB) hx (rd_takeK (OwnG.rd (OwnG.ext hb.own (gr_alloc _ _ none))) hj) (fun y hy => hb.one y (List.mem_of_mem_take hy)) (by simp; omega) (by rw [World.size_alloc]; omega) fun v7 w7 ho7 ha7 => ?_
  have ho7' : OwnG Bk.enc 2 w7 w0.heap.size v7 (l.take j) := ho7
  obtain ⟨A7, c7, ev⟩ := RdG.form (OwnG.rd ho7')
  rw [show (l.take j).length = j from by rw [List.length_take]; omega] at ev
  subst ev
  exact k A7 c7 w7 ho7' (ha7.gr (gr_alloc _ _ none) fun q e => by cases e; exact Nat.le_refl _) fun q e => by
    rcases ha7 with ⟨A, c, e1, e2, -⟩ | ⟨k, e1, hk, -⟩
    · have hA : A7 = some ⟨w.heap.size, 0, none⟩ := by
        injection e1 with a1
        injection e2 with a2
        rw [a2, ← a1]
      subst hA
      cases e
      exact Nat.le_refl _
    · rw [e1] at e
      cases e
      rw [World.size_alloc] at hk; omega
/-- append(more, l[j+1:]...). -/
theorem wp_joinK {w0 : World} {O : Own1} {ops : Array Oper} {rest : List Oper} {o : Oper} {a : Act} {Q : Exit → Act → World → Prop} {l l' : List Bk} {A A7 : Option Addr} {c c7 j : Nat} (hj : j < l.length) (hb : BkL w0 wb O (.slice A l.length c) l) (hl : l.take j ++ l.drop (j + 1) = l') (hf : ∀ i, wb.heap.size ≤ i → O i = none) (hB : w0.heap.size ≤ wb.heap.size) (hn : l.length ≤ 1000000)
    (ho7 : OwnG Bk.enc 2 w w0.heap.size (.slice A7 j c7) (l.take j)) (g7 : wb.grownBy w none) (hv7 : ∀ q, (Value.slice A7 j c7).ownBlock = some q → wb.heap.size ≤ q) (hgd : o.guard = none) (s0 x0 : Operand)
    (ho : o.op = .call { callee := .builtin .append, args := #[s0, x0], argTypes := #[32, 32] }) (hs : a.eval s0 = .slice A7 j c7) (hx : a.eval x0 = .slice (cutA A c (j + 1) 2) (l.length - (j + 1)) (c - (j + 1)))
    (k : ∀ A8 c8 w8, BkL w0 w8 O (.slice A8 l'.length c8) l' → wb.grownBy w8 none → wpList Tryz.prog ops Q rest (a.put o.dst (.slice A8 l'.length c8)) w8) :
    wpList Tryz.prog ops Q (o :: rest) a w := by
  refine wp_appK (l := l.take j) (m := l.drop (j + 1)) hgd s0 x0 ho hs ho7 hx (rd_dropK (OwnG.rd (OwnG.ext hb.own g7)) (by omega)) (fun y hy => hb.one y (List.mem_of_mem_drop hy)) (by simp; omega) (by have := g7.size; omega) fun v8 w8 ho8 ha8 => ?_
  rw [hl] at ho8
  obtain ⟨A8, c8, rfl⟩ := RdG.form (OwnG.rd ho8)
  have hgw : wb.grownBy w8 none := ha8.gr g7 hv7
  refine k A8 c8 w8 (hb.fresh hgw ho8 (fun x hx => ?_) (fun q e => ?_) hf) hgw
  · rw [← hl] at hx
    rcases List.mem_append.1 hx with hx | hx
    · exact List.mem_of_mem_take hx
    · exact List.mem_of_mem_drop hx
  · rcases ha8.blk e with e | e
    · exact hv7 q (blk_ownF e)
    · have := g7.size; omega
theorem stepF_eq {F8 : List Fz} {bs : List UInt8} {n8 : Int} {er : Nat} {X : StepR} (h : (⟨F8, bs, n8, er⟩ : StepR) = X) : F8 = X.F ∧ bs = X.b ∧ n8 = X.n ∧ er = X.e := by subst h; exact ⟨rfl, rfl, rfl, rfl⟩
end
end Go.Proofs.YtkpmadahfmpeiaaGreat
