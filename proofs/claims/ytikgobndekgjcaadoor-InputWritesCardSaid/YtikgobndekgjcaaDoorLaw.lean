/-
  Plain laws of inputs: what is written is read, what is read is written so, and cuts.
-/
import Derived.Test.YtikgobndekgjcaaDoorChecks
namespace Go.Proofs.YtikgobndekgjcaaDoor
open Go.RowKit

def Ed.fix (e : Ed) : Ed := ⟨e.t, e.h, e.w, 4294967295⟩

theorem take_le (x n : Nat) (z : List UInt8) : (le x n ++ z).take n = le x n := by
  rw [List.take_append_of_le_length (by rw [length_le]; exact Nat.le_refl _), List.take_of_length_le (by rw [length_le]; exact Nat.le_refl _)]
theorem drop_le (x n : Nat) (z : List UInt8) : (le x n ++ z).drop n = z := by
  have := List.drop_left (l₁ := le x n) (l₂ := z)
  rwa [length_le] at this
theorem edOf_le (t h w m : Nat) (ht : t < 2 ^ 32) (hh : h < 2 ^ 32) (hw : w < 2 ^ 64) (hm : m < 2 ^ 32) :
    edOf (le t 4 ++ (le h 4 ++ (le w 8 ++ le m 4))) = ⟨UInt32.ofNat t, UInt32.ofNat h, UInt64.ofNat w, UInt32.ofNat m⟩ := by
  unfold edOf
  have d8 : (le t 4 ++ (le h 4 ++ (le w 8 ++ le m 4))).drop 8 = le w 8 ++ le m 4 := by
    rw [show (8 : Nat) = 4 + 4 from rfl, ← List.drop_drop, drop_le, drop_le]
  have d16 : (le t 4 ++ (le h 4 ++ (le w 8 ++ le m 4))).drop 16 = le m 4 := by
    rw [show (16 : Nat) = 8 + 8 from rfl, ← List.drop_drop, d8, drop_le]
  rw [d8, d16, drop_le, take_le, take_le, take_le, List.take_of_length_le (by simp [length_le]), rd_le, rd_le, rd_le, rd_le, Nat.mod_eq_of_lt ht, Nat.mod_eq_of_lt hh, Nat.mod_eq_of_lt hw, Nat.mod_eq_of_lt hm]
theorem rowE_row (e : Ed) : rowE e.row = e.fix := by
  unfold rowE Ed.row Ed.fix
  rw [← le_none, List.append_assoc, List.append_assoc, edOf_le _ _ _ _ e.t.toNat_lt e.h.toNat_lt e.w.toNat_lt (by omega)]
  simp
theorem row_rowE {b : List UInt8} (h : b.length = 16) : (rowE b).row = b := by
  unfold Ed.row rowE
  rw [edOf_t, edOf_h, edOf_w]
  have e1 : (b ++ [255, 255, 255, 255]).take 4 = b.take 4 := List.take_append_of_le_length (by omega)
  have e2 : ((b ++ [255, 255, 255, 255]).drop 4).take 4 = (b.drop 4).take 4 := by rw [List.drop_append_of_le_length (by omega), List.take_append_of_le_length (by simp; omega)]
  have e3 : ((b ++ [255, 255, 255, 255]).drop 8).take 8 = b.drop 8 := by
    rw [List.drop_append_of_le_length (by omega), List.take_append_of_le_length (by simp; omega), List.take_of_length_le (by simp; omega)]
  rw [e1, e2, e3]
  have l1 := le_rd (b.take 4)
  have l2 := le_rd ((b.drop 4).take 4)
  have l3 := le_rd (b.drop 8)
  rw [List.length_take_of_le (by omega)] at l1
  rw [List.length_take_of_le (by simp; omega)] at l2
  rw [List.length_drop, h] at l3
  rw [l1, l2, l3, List.append_assoc]
  have : (b.drop 4).take 4 ++ b.drop 8 = b.drop 4 := by
    have := List.take_append_drop 4 (b.drop 4)
    rwa [List.drop_drop] at this
  rw [this, List.take_append_drop]
theorem rowM_fst {b : List UInt8} {n : UInt32} {p : Nat} {x : Ed} (h : rowM b n p = (x, none)) : x = rowE b := by
  unfold rowM at h
  repeat' split at h
  all_goals simp at h
  exact h.symm
theorem rowM_ok {n : UInt32} {e : Ed} (h : rowOk n e = true) (p : Nat) : rowM e.row n p = (e.fix, none) := by
  unfold rowOk at h
  rw [rowM_shift]
  rcases hr : rowM e.row n 0 with ⟨x, f⟩
  rw [hr] at h
  rcases f with _ | f
  · rw [rowM_fst hr, rowE_row]; rfl
  · simp at h
theorem rowM_bad {n : UInt32} {e : Ed} (h : rowOk n e = false) : ∃ x f, rowM e.row n 0 = (x, some f) := by
  unfold rowOk at h
  rcases hr : rowM e.row n 0 with ⟨x, f⟩
  rw [hr] at h
  rcases f with _ | f
  · simp at h
  · exact ⟨x, f, rfl⟩
theorem rowOk_of {b : List UInt8} {n : UInt32} {p : Nat} {x : Ed} (h : rowM b n p = (x, none)) : rowOk n x = true ∧ x.row = b ∧ x.m = 4294967295 := by
  have hl := rowM_len h
  have hx := rowM_fst h
  have hr : x.row = b := by rw [hx, row_rowE hl]
  refine ⟨?_, hr, by rw [hx, rowE_m hl]⟩
  unfold rowOk
  rw [hr]
  rw [rowM_shift] at h
  have := congrArg Prod.snd h
  simp at this
  rw [this]; rfl
theorem fix_of {x : Ed} (h : x.m = 4294967295) : x.fix = x := by
  obtain ⟨t, h', w, m⟩ := x
  simp at h
  subst h
  rfl

/-- the piece of sixteen bytes at a row's place. -/
theorem piece_row (X Z : List UInt8) (e : Ed) (l : List Ed) : ((X ++ ((e :: l).flatMap Ed.row ++ Z)).drop X.length).take 16 = e.row := by
  rw [List.drop_left, List.flatMap_cons, List.append_assoc, List.take_append_of_le_length (by rw [length_row]; exact Nat.le_refl _), List.take_of_length_le (by rw [length_row]; exact Nat.le_refl _)]
theorem rows_all (n : UInt32) (Z : List UInt8) : ∀ (l : List Ed) (X : List UInt8) (acc : List Ed), l.all (rowOk n) = true →
    rowsM (X ++ (l.flatMap Ed.row ++ Z)) n l.length X.length acc = if Z = [] then (acc ++ l.map Ed.fix, none) else ([], some (8, X.length + 16 * l.length))
  | [], X, acc, _ => by
    simp only [List.flatMap_nil, List.nil_append, List.length_nil, rowsM, List.length_append, List.map_nil, List.append_nil]
    rcases Z with _ | ⟨z, Z⟩
    · simp
    · simp
  | e :: l, X, acc, h => by
    rw [List.all_cons, Bool.and_eq_true] at h
    have hp := rowM_ok h.1 X.length
    rw [← piece_row X Z e l] at hp
    rw [List.length_cons, rows_good hp]
    have := rows_all n Z l (X ++ e.row) (acc ++ [e.fix]) h.2
    rw [List.length_append, length_row] at this
    have hb : X ++ e.row ++ (l.flatMap Ed.row ++ Z) = X ++ ((e :: l).flatMap Ed.row ++ Z) := by simp
    rw [hb] at this
    rw [this]
    split
    · simp
    · simp; omega
/-- the first row that may not be. -/
theorem rows_fault (n : UInt32) (Z : List UInt8) : ∀ (l : List Ed) (k : Nat) (hk : k < l.length) (X : List UInt8) (acc : List Ed) (x : Ed) (e q : Nat), (l.take k).all (rowOk n) = true → rowM l[k].row n 0 = (x, some (e, q)) →
    rowsM (X ++ (l.flatMap Ed.row ++ Z)) n l.length X.length acc = ([], some (e, X.length + 16 * k + q))
  | e :: l, 0, _, X, acc, x, er, q, _, hr => by
    have hp : rowM e.row n X.length = (x, some (er, X.length + q)) := by rw [rowM_shift]; simp at hr; rw [hr]; rfl
    rw [← piece_row X Z e l] at hp
    rw [List.length_cons, rows_bad hp]
    simp
  | e :: l, k + 1, hk, X, acc, x, er, q, h, hr => by
    rw [List.take_succ_cons, List.all_cons, Bool.and_eq_true] at h
    have hp := rowM_ok h.1 X.length
    rw [← piece_row X Z e l] at hp
    rw [List.length_cons, rows_good hp]
    have := rows_fault n Z l k (by simpa using hk) (X ++ e.row) (acc ++ [e.fix]) x er q h.2 (by simpa using hr)
    rw [List.length_append, length_row] at this
    have hb : X ++ e.row ++ (l.flatMap Ed.row ++ Z) = X ++ ((e :: l).flatMap Ed.row ++ Z) := by simp
    rw [hb] at this
    rw [this]
    simp; omega

theorem writeOk_iff {n : UInt32} {l : List Ed} : writeOk n l = true ↔ l.length ≤ 16777216 ∧ n.toNat ≤ 2147483647 ∧ ¬ (n.toNat = 0 ∧ 0 < l.length) ∧ l.all (rowOk n) = true := by
  constructor
  · intro h
    unfold writeOk at h
    simp only [Bool.and_eq_true, decide_eq_true_eq] at h
    obtain ⟨h1, h2, h3, h4⟩ := h
    refine ⟨h1, h2, fun ⟨a, b⟩ => ?_, h4⟩
    rw [a, decide_eq_true b] at h3
    simp at h3
  · intro ⟨h1, h2, h3, h4⟩
    exact writeOk_ok h1 h2 h3 h4
/-- what is written is read; what stands behind it is refused where it begins. -/
theorem check_write {n : UInt32} {l : List Ed} (h : writeOk n l = true) (Z : List UInt8) : checkM (inputB n l ++ (l.flatMap Ed.row ++ Z)) = if Z = [] then (n.toNat, l.map Ed.fix, none) else (0, [], some (8, 12 + 16 * l.length)) := by
  obtain ⟨h1, h2, h3, h4⟩ := writeOk_iff.1 h
  have hh := head_inputB n l (l.flatMap Ed.row ++ Z) h1 h2 h3
  have hr := rows_all n Z l (inputB n l) [] h4
  rw [length_inputB] at hr
  split at hr
  · rename_i hZ
    rw [if_pos hZ]
    refine check_good hh ?_
    rw [UInt32.ofNat_toNat]
    simpa using hr
  · rename_i hZ
    rw [if_neg hZ]
    refine check_bad hh (l := []) ?_
    rw [UInt32.ofNat_toNat]
    exact hr
/-- one row that may not be. -/
theorem check_fault {n : UInt32} {l : List Ed} (h1 : l.length ≤ 16777216) (h2 : n.toNat ≤ 2147483647) (h3 : ¬ (n.toNat = 0 ∧ 0 < l.length)) {k : Nat} (hk : k < l.length) (hp : (l.take k).all (rowOk n) = true) {x : Ed} {e q : Nat}
    (hr : rowM l[k].row n 0 = (x, some (e, q))) : checkM (inputB n l ++ l.flatMap Ed.row) = (0, [], some (e, 12 + 16 * k + q)) := by
  have hh := head_inputB n l (l.flatMap Ed.row ++ []) h1 h2 h3
  have hr := rows_fault n [] l k hk (inputB n l) [] x e q hp hr
  rw [length_inputB] at hr
  rw [List.append_nil] at hh hr
  refine check_bad hh (l := []) ?_
  rw [UInt32.ofNat_toNat]
  exact hr

/-! what is read is written so -/
theorem rows_back (b : List UInt8) (n : UInt32) : ∀ (k p : Nat) (acc l : List Ed), rowsM b n k p acc = (l, none) → p ≤ b.length → ∃ m, l = acc ++ m ∧ m.length = k ∧ b.drop p = m.flatMap Ed.row ∧ m.all (rowOk n) = true
  | 0, p, acc, l, h, hp => by
    unfold rowsM at h
    split at h
    · simp at h
    · simp at h
      exact ⟨[], by simp [h], rfl, by rw [List.drop_of_length_le (by omega)]; rfl, rfl⟩
  | k + 1, p, acc, l, h, hp => by
    rcases hr : rowM ((b.drop p).take 16) n p with ⟨e, f⟩
    rcases f with _ | f
    · rw [rows_good hr] at h
      have hl := rowM_len hr
      obtain ⟨h1, h2, h3⟩ := rowOk_of hr
      obtain ⟨m, rfl, hm, hb, hall⟩ := rows_back b n k (p + 16) _ l h (by simp at hl; omega)
      refine ⟨e :: m, by simp, by simp [hm], ?_, by simp [h1, hall]⟩
      rw [List.flatMap_cons, h2, ← hb, ← List.drop_drop, List.take_append_drop]
    · rw [rows_bad hr] at h
      simp at h
theorem mis_magic {b : List UInt8} (h : mis b magic 0 = none) : b.take 4 = magic := by
  have h0 := mis_none h 0 (by simp [magic])
  have h1 := mis_none h 1 (by simp [magic])
  have h2 := mis_none h 2 (by simp [magic])
  have h3 := mis_none h 3 (by simp [magic])
  simp [magic] at h0 h1 h2 h3
  rcases b with _ | ⟨a, _ | ⟨a1, _ | ⟨a2, _ | ⟨a3, b⟩⟩⟩⟩ <;> simp at h0 h1 h2 h3
  subst h0 h1 h2 h3
  rfl
theorem head_inv {b : List UInt8} {n m : Nat} (h : headM b = (n, m, none)) : mis b magic 0 = none ∧ 12 ≤ b.length ∧ n = rdN ((b.drop 4).take 4) ∧ m = rdN ((b.drop 8).take 4) ∧ n ≤ 2147483647 ∧ m ≤ 16777216 ∧ ¬ (n = 0 ∧ 0 < m) := by
  unfold headM at h
  split at h
  · simp at h
  · repeat' split at h
    all_goals simp at h
    obtain ⟨rfl, rfl⟩ := h
    refine ⟨by assumption, by omega, rfl, rfl, by omega, by omega, by assumption⟩
theorem check_inv {b : List UInt8} {n : Nat} {l : List Ed} (h : checkM b = (n, l, none)) : ∃ m, headM b = (n, m, none) ∧ rowsM b (UInt32.ofNat n) m 12 [] = (l, none) := by
  rcases hh : headM b with ⟨n', m, f⟩
  rcases f with _ | f
  · rcases hr : rowsM b (UInt32.ofNat n') m 12 [] with ⟨l', f⟩
    rcases f with _ | f
    · rw [check_good hh hr] at h
      simp at h
      obtain ⟨rfl, rfl⟩ := h
      exact ⟨m, rfl, hr⟩
    · rw [check_bad hh hr] at h
      simp at h
  · rw [check_head hh] at h
    simp at h
theorem write_check {b : List UInt8} {n : Nat} {l : List Ed} (h : checkM b = (n, l, none)) : writeM (UInt32.ofNat n) l = (b, 0) := by
  obtain ⟨m, hh, hr⟩ := check_inv h
  obtain ⟨h1, h2, h3, h4, h5, h6, h7⟩ := head_inv hh
  obtain ⟨l', hl', hm, hb, hall⟩ := rows_back b _ _ _ _ _ hr h2
  rw [List.nil_append] at hl'
  subst hl'
  have hn : (UInt32.ofNat n).toNat = n := u32_of (by omega)
  rw [writeM_ok (writeOk_ok (by omega) (by omega) (by rw [hn, hm]; exact h7) hall)]
  refine congrArg (·, 0) ?_
  rw [← hb]
  have e : inputB (UInt32.ofNat n) l = b.take 12 := by
    unfold inputB
    rw [hn, hm, h3, h4]
    have l1 := le_rd ((b.drop 4).take 4)
    have l2 := le_rd ((b.drop 8).take 4)
    rw [List.length_take_of_le (by simp; omega)] at l1 l2
    rw [l1, l2, ← mis_magic h1, List.append_assoc]
    have a1 : (b.drop 4).take 4 ++ (b.drop 8).take 4 = (b.drop 4).take 8 := by
      rw [show (8 : Nat) = 4 + 4 from rfl, List.take_add, List.drop_drop]
    rw [a1, show (12 : Nat) = 4 + 8 from rfl, List.take_add]
  rw [e, List.take_append_drop]

/-! cuts -/
theorem mis_take {b : List UInt8} {k : Nat} (hk : k < 4) (hkb : k ≤ b.length) (h : ∀ j (h : j < k), b[j]? = magic[j]?) : mis (b.take k) magic 0 = some k := by
  have e : b.take k = magic.take k := by
    apply List.ext_getElem?
    intro j
    rw [List.getElem?_take, List.getElem?_take]
    split
    · exact h j (by assumption)
    · rfl
  rw [e]
  match k, hk with
  | 0, _ => rfl
  | 1, _ => rfl
  | 2, _ => rfl
  | 3, _ => rfl
theorem mis_take4 {b : List UInt8} {k : Nat} (hk : 4 ≤ k) (h : mis b magic 0 = none) : mis (b.take k) magic 0 = none := by
  have e : (b.take k).take 4 = magic := by rw [List.take_take, Nat.min_eq_left hk, mis_magic h]
  rcases hb : b.take k with _ | ⟨a, _ | ⟨a1, _ | ⟨a2, _ | ⟨a3, b'⟩⟩⟩⟩ <;> rw [hb] at e <;> simp [magic] at e
  obtain ⟨rfl, rfl, rfl, rfl⟩ := e
  simp [mis, magic]
theorem check_short {b : List UInt8} {k : Nat} (hk : k < 12) (hkb : k ≤ b.length) (h : mis b magic 0 = none) : checkM (b.take k) = (0, [], some (8, k)) := by
  have hl : (b.take k).length = k := List.length_take_of_le hkb
  by_cases h4 : k < 4
  · have hm := mis_take h4 hkb fun j hj => by
      have := mis_none h j (by simp [magic]; omega)
      rw [Nat.zero_add] at this
      rw [this, List.getElem?_eq_getElem]
    exact check_head (n := 0) (m := 0) (by unfold headM; rw [hm])
  · have hm := mis_take4 (k := k) (by omega) h
    refine check_head (n := 0) (m := 0) ?_
    unfold headM
    rw [hm]
    simp only [hl]
    rw [if_pos hk]
theorem head_take {b : List UInt8} {n m : Nat} (h : headM b = (n, m, none)) {k : Nat} (hk : 12 ≤ k) : headM (b.take k) = (n, m, none) := by
  obtain ⟨h1, h2, h3, h4, h5, h6, h7⟩ := head_inv h
  have e1 : ((b.take k).drop 4).take 4 = (b.drop 4).take 4 := by rw [List.drop_take, List.take_take, Nat.min_eq_left (by omega)]
  have e2 : ((b.take k).drop 8).take 4 = (b.drop 8).take 4 := by rw [List.drop_take, List.take_take, Nat.min_eq_left (by omega)]
  have := head_ok (mis_take4 (k := k) (by omega) h1) (by simp; omega) (by rw [e1]; omega) (by rw [e2]; omega) (by rw [e1, e2, ← h3, ← h4]; exact h7)
  rw [e1, e2, ← h3, ← h4] at this
  exact this
theorem piece_take (b : List UInt8) {p k : Nat} (h : p + 16 ≤ k) : ((b.take k).drop p).take 16 = (b.drop p).take 16 := by
  rw [List.drop_take, List.take_take, Nat.min_eq_left (by omega)]
theorem rows_cut (b : List UInt8) (n : UInt32) {c : Nat} (hc : c < b.length) : ∀ (k p : Nat) (acc l : List Ed), rowsM b n k p acc = (l, none) → p ≤ c → rowsM (b.take c) n k p acc = ([], some (8, c))
  | 0, p, acc, l, h, hp => by
    unfold rowsM at h
    split at h
    · simp at h
    · omega
  | k + 1, p, acc, l, h, hp => by
    rcases hr : rowM ((b.drop p).take 16) n p with ⟨e, f⟩
    rcases f with _ | f
    · rw [rows_good hr] at h
      by_cases hpc : p + 16 ≤ c
      · rw [← piece_take b hpc] at hr
        rw [rows_good hr]
        exact rows_cut b n hc k (p + 16) _ l h hpc
      · have hl : (((b.take c).drop p).take 16).length = c - p := by simp; omega
        have := row_short (b := ((b.take c).drop p).take 16) (n := n) (p := p) (by omega)
        rw [hl, show p + (c - p) = c from by omega] at this
        exact rows_bad this
    · rw [rows_bad hr] at h
      simp at h
theorem check_cut {b : List UInt8} {n : Nat} {l : List Ed} (h : checkM b = (n, l, none)) {c : Nat} (hc : c < b.length) : checkM (b.take c) = (0, [], some (8, c)) := by
  obtain ⟨m, hh, hr⟩ := check_inv h
  by_cases h12 : c < 12
  · exact check_short h12 (by omega) (head_inv hh).1
  · exact check_bad (head_take hh (by omega)) (rows_cut b _ hc _ _ _ _ hr (by omega))
/-- what is refused, cut at the place. -/
theorem rows_at (b : List UInt8) (n : UInt32) : ∀ (k p : Nat) (acc l : List Ed) (e c : Nat), rowsM b n k p acc = (l, some (e, c)) → p ≤ b.length → p ≤ c ∧ c ≤ b.length ∧ l = [] ∧ ((∃ l', rowsM (b.take c) n k p acc = (l', none)) ∨ rowsM (b.take c) n k p acc = ([], some (8, c)))
  | 0, p, acc, l, e, c, h, hp => by
    unfold rowsM at h
    split at h
    · simp at h
      obtain ⟨rfl, rfl, rfl⟩ := h
      refine ⟨Nat.le_refl _, by omega, rfl, .inl ⟨acc, ?_⟩⟩
      unfold rowsM
      rw [if_neg (by rw [List.length_take]; omega)]
    · simp at h
  | k + 1, p, acc, l, e, c, h, hp => by
    rcases hr : rowM ((b.drop p).take 16) n p with ⟨x, f⟩
    rcases f with _ | f
    · rw [rows_good hr] at h
      have hl := rowM_len hr
      simp at hl
      obtain ⟨h1, h2, h3, h4⟩ := rows_at b n k (p + 16) _ l e c h (by omega)
      rw [← piece_take b h1] at hr
      rw [rows_good hr]
      exact ⟨by omega, h2, h3, h4⟩
    · rw [rows_bad hr] at h
      simp at h
      obtain ⟨rfl, rfl⟩ := h
      have hq : p ≤ c ∧ c ≤ b.length ∧ c < p + 16 := by
        unfold rowM at hr
        have hlen : ((b.drop p).take 16).length ≤ b.length - p ∧ ((b.drop p).take 16).length ≤ 16 := by simp; omega
        repeat' split at hr
        all_goals simp only [Prod.mk.injEq, Option.some.injEq, reduceCtorEq, and_false] at hr
        all_goals (obtain ⟨_, _, rfl⟩ := hr; omega)
      refine ⟨hq.1, hq.2.1, rfl, .inr ?_⟩
      have hl : (((b.take c).drop p).take 16).length = c - p := by simp; omega
      have := row_short (b := ((b.take c).drop p).take 16) (n := n) (p := p) (by omega)
      rw [hl, show p + (c - p) = c from by omega] at this
      exact rows_bad this
theorem mis_pre {b : List UInt8} {i : Nat} (h : mis b magic 0 = some i) : ∀ j, j < i → b[j]? = magic[j]? := fun j hj => by
  have := (mis_at (i := 0) (j := i) (by rw [Nat.zero_add]; exact h)).1 j hj
  rwa [Nat.zero_add] at this
theorem mis_le {b : List UInt8} {i : Nat} (h : mis b magic 0 = some i) : i ≤ b.length := by
  have h4 := (mis_lt h).2
  rcases Nat.lt_or_ge b.length i with hl | hl
  · have := mis_pre h b.length hl
    rw [List.getElem?_eq_none (Nat.le_refl _), List.getElem?_eq_getElem (by omega)] at this
    cases this
  · exact hl
theorem rowsM_e (b : List UInt8) (n : UInt32) : ∀ (k p : Nat) (acc : List Ed) {l : List Ed} {e c : Nat}, rowsM b n k p acc = (l, some (e, c)) → 1 ≤ e
  | 0, p, acc, l, e, c, h => by
    unfold rowsM at h
    split at h
    · simp at h; omega
    · simp at h
  | k + 1, p, acc, l, e, c, h => by
    rcases hr : rowM ((b.drop p).take 16) n p with ⟨x, f⟩
    rcases f with _ | f
    · rw [rows_good hr] at h
      exact rowsM_e b n k _ _ h
    · rw [rows_bad hr] at h
      simp at h
      obtain ⟨_, rfl⟩ := h
      exact (rowM_e hr).1
theorem check_at {b : List UInt8} {n : Nat} {l : List Ed} {e c : Nat} (h : checkM b = (n, l, some (e, c))) : n = 0 ∧ l = [] ∧ 1 ≤ e ∧ c ≤ b.length ∧ ((∃ n' l', checkM (b.take c) = (n', l', none)) ∨ checkM (b.take c) = (0, [], some (8, c))) := by
  rcases hh : headM b with ⟨n', m, f⟩
  rcases f with _ | ⟨e', c'⟩
  · rcases hr : rowsM b (UInt32.ofNat n') m 12 [] with ⟨l', f⟩
    rcases f with _ | ⟨e', c'⟩
    · rw [check_good hh hr] at h
      simp at h
    · rw [check_bad hh hr] at h
      simp at h
      obtain ⟨rfl, rfl, rfl, rfl⟩ := h
      obtain ⟨h1, h2, h3, h4⟩ := rows_at b _ _ _ _ _ _ _ hr (head_inv hh).2.1
      refine ⟨rfl, rfl, ?_, h2, ?_⟩
      · exact rowsM_e b _ _ _ _ hr
      · have ht := head_take hh (k := c') h1
        rcases h4 with ⟨l', h4⟩ | h4
        · exact .inl ⟨_, _, check_good ht h4⟩
        · exact .inr (check_bad ht h4)
  · have hc := check_head hh
    rw [hc] at h
    simp at h
    obtain ⟨rfl, rfl, rfl, rfl⟩ := h
    refine ⟨rfl, rfl, (headM_e hh).1, ?_⟩
    unfold headM at hh
    split at hh
    · rename_i i hi
      simp at hh
      obtain ⟨_, _, _, rfl⟩ := hh
      have hi4 := (mis_lt hi).2
      have hpre := mis_pre hi
      have hle : i ≤ b.length := mis_le hi
      refine ⟨hle, .inr (check_head (n := 0) (m := 0) ?_)⟩
      have hm := mis_take (b := b) (k := i) (by simpa [magic] using hi4) hle hpre
      unfold headM
      rw [hm]
    · rename_i hm
      by_cases h12 : b.length < 12
      · rw [if_pos h12] at hh
        simp at hh
        obtain ⟨_, _, rfl, rfl⟩ := hh
        refine ⟨Nat.le_refl _, .inr ?_⟩
        exact check_short h12 (Nat.le_refl _) hm
      · rw [if_neg h12] at hh
        repeat' split at hh
        all_goals simp only [Prod.mk.injEq, Option.some.injEq, reduceCtorEq, and_false] at hh
        all_goals (obtain ⟨_, _, _, rfl⟩ := hh; exact ⟨by omega, .inr (check_short (by omega) (by omega) hm)⟩)
end Go.Proofs.YtikgobndekgjcaaDoor
