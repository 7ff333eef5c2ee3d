/-
  Map keys that are pairs of whole numbers below 2^32 ([2]uint32).
-/
import Derived.Test.YthckjpcknmmagaaDoorVm
import Derived.DeepKeys5
namespace Go.Proofs.YthckjpcknmmagaaDoor
open Go.RowKit Go.Maps
set_option maxRecDepth 100000
set_option maxHeartbeats 400000

theorem bytesLE_len : ∀ (w n : Nat), (bytesLE w n).length = w
  | 0, _ => rfl
  | w + 1, n => by simp [bytesLE, bytesLE_len w]
theorem bytesLE_inj : ∀ (w n m : Nat), n < 256 ^ w → m < 256 ^ w → bytesLE w n = bytesLE w m → n = m
  | 0, n, m, hn, hm, _ => by simp at hn hm; omega
  | w + 1, n, m, hn, hm, h => by
    simp only [bytesLE, List.cons.injEq] at h
    obtain ⟨h1, h2⟩ := h
    have h3 := bytesLE_inj w (n / 256) (m / 256) (by rw [Nat.pow_succ] at hn; omega) (by rw [Nat.pow_succ] at hm; omega) h2
    have h4 : n % 256 = m % 256 := by
      have := congrArg UInt8.toNat h1
      simpa using this
    omega
theorem bytesBE_len (w n : Nat) : (bytesBE w n).length = w := by simp [bytesBE, bytesLE_len]
theorem bytesBE_inj {n m : Nat} (hn : n < 4294967296) (hm : m < 4294967296) (h : bytesBE 4 n = bytesBE 4 m) : n = m :=
  bytesLE_inj 4 n m (by omega) (by omega) (List.reverse_inj.1 h)
structure Pr where
  a : UInt32
  b : UInt32
deriving DecidableEq
def Pr.v (x : Pr) : Value := .agg #[.int .u32 x.a.toNat, .int .u32 x.b.toNat]
def Pr.lits (x : Pr) : List Lit := [.int .u32 x.a.toNat, .int .u32 x.b.toNat]
def Pr.lit (x : Pr) : Lit := .string (keyBytes x.lits)
theorem Pr.lit_inj (x y : Pr) (h : x.lit = y.lit) : x = y := by
  unfold Pr.lit Pr.lits keyBytes at h
  simp only [Lit.string.injEq, List.flatMap_cons, List.flatMap_nil, List.append_nil, Lit.keyBytes] at h
  obtain ⟨h1, h2⟩ := List.append_inj h (by simp [bytesBE_len])
  have hb : ∀ c : UInt32, (((c.toNat : Nat) : Int) % 2 ^ IntKind.u32.bits).toNat = c.toNat := fun c => by
    have := c.toNat_lt
    show (((c.toNat : Nat) : Int) % 4294967296).toNat = c.toNat
    omega
  have h8 : IntKind.u32.bits / 8 = 4 := rfl
  rw [hb, hb, h8] at h1 h2
  have e1 := bytesBE_inj x.a.toNat_lt y.a.toNat_lt h1
  have e2 := bytesBE_inj x.b.toNat_lt y.b.toNat_lt h2
  obtain ⟨a, b⟩ := x
  obtain ⟨c, d⟩ := y
  simp only [UInt32.toNat_inj] at e1 e2
  subst e1 e2
  rfl
section
variable {P : Program} {k e : TypeId}
theorem u32_wf (x : UInt32) : (Lit.int .u32 (x.toNat : Int)).wf = true := by
  have := x.toNat_lt
  have e1 : IntKind.u32.min = 0 := rfl
  have e2 : IntKind.u32.max = 4294967295 := rfl
  simp [Lit.wf, e1, e2]; omega
theorem wf_u32 {n : Int} (h : (Lit.int .u32 n).wf = true) : ∃ x : UInt32, n = (x.toNat : Int) := by
  have e1 : IntKind.u32.min = 0 := rfl
  have e2 : IntKind.u32.max = 4294967295 := rfl
  simp [Lit.wf, e1, e2] at h
  exact ⟨UInt32.ofNat n.toNat, by rw [UInt32.toNat_ofNat_of_lt' (by show _ < 4294967296; omega)]; omega⟩
theorem lits_one (he : P.underlying e = some (.int .u32)) (d : Nat) (v : Value) (l : List Lit) : P.keyLits (d + 1) e [v] = some l ↔ ∃ x : UInt32, v = .int .u32 x.toNat ∧ l = [.int .u32 x.toNat] := by
  unfold Program.keyLits
  rw [he]
  constructor
  · intro h
    cases v <;> simp at h
    rename_i q n
    obtain ⟨⟨rfl, hw⟩, rfl⟩ := h
    obtain ⟨x, rfl⟩ := wf_u32 hw
    exact ⟨x, rfl, rfl⟩
  · rintro ⟨x, rfl, rfl⟩
    simp [u32_wf]
theorem lits_two (hk : P.underlying k = some (.array 2 e)) (he : P.underlying e = some (.int .u32)) (hc : P.cellsOf k = 2) (hc1 : P.cellsOf e = 1) (d : Nat) (p q : Value) (l : List Lit) :
    P.keyLits (d + 2) k [p, q] = some l ↔ ∃ x : Pr, p = .int .u32 x.a.toNat ∧ q = .int .u32 x.b.toNat ∧ l = x.lits := by
  have h0 : P.keyLits (d + 2) k [p, q] = (((List.range 2).mapM fun i => P.keyLits (d + 1) e (([p, q].drop (i * P.cellsOf e)).take (P.cellsOf e))).map List.flatten) := by
    conv => lhs; unfold Program.keyLits
    rw [hk]
    simp [hc]
  rw [h0, show List.range 2 = [0, 1] from rfl, hc1]
  simp only [List.mapM_cons, List.mapM_nil]
  have e1 : (List.take 1 (List.drop (0 * 1) [p, q])) = [p] := rfl
  have e2 : (List.take 1 (List.drop (1 * 1) [p, q])) = [q] := rfl
  rw [e1, e2]
  constructor
  · intro h
    cases h1 : P.keyLits (d + 1) e [p] with
    | none => rw [h1] at h; simp at h
    | some la =>
      cases h2 : P.keyLits (d + 1) e [q] with
      | none => rw [h1, h2] at h; simp at h
      | some lb =>
        rw [h1, h2] at h
        obtain ⟨x, rfl, rfl⟩ := (lits_one he _ _ _).1 h1
        obtain ⟨y, rfl, rfl⟩ := (lits_one he _ _ _).1 h2
        simp at h
        exact ⟨⟨x, y⟩, rfl, rfl, h.symm⟩
  · rintro ⟨x, rfl, rfl, rfl⟩
    rw [(lits_one he _ _ _).2 ⟨x.a, rfl, rfl⟩, (lits_one he _ _ _).2 ⟨x.b, rfl, rfl⟩]
    rfl
/-- keys of the type [2]uint32. -/
def prK (P : Program) (k e : TypeId) (hk : P.underlying k = some (.array 2 e)) (he : P.underlying e = some (.int .u32)) (hc : P.cellsOf k = 2) (hc1 : P.cellsOf e = 1) (hl : laidOutB P = true) (hsmall : P.types.size + 2 ≤ 10000) (hrow : k < P.types.size) (hkt : P.keyType k = true) : KeyK P k Pr where
  kv := Pr.v
  kl := Pr.lit
  key x := by
    have h1 : 0 < P.types.size := Nat.lt_of_le_of_lt (Nat.zero_le k) hrow
    obtain ⟨d, hd⟩ : ∃ d, P.types.size + 1 = d + 2 := ⟨P.types.size - 1, by omega⟩
    have hf : (Value.agg #[.int .u32 x.a.toNat, .int .u32 x.b.toNat]).formed P k = true := by simp [Value.formed, hk, hc]
    unfold keyOf Pr.v
    rw [hk]
    simp only [hkt, hf, Bool.and_self, if_true, hd]
    have : (Value.agg #[.int .u32 (x.a.toNat : Int), .int .u32 (x.b.toNat : Int)]).cells.toList = [.int .u32 x.a.toNat, .int .u32 x.b.toNat] := rfl
    rw [this, (lits_two hk he hc hc1 d _ _ x.lits).2 ⟨x, rfl, rfl, rfl⟩]
    rfl
  inv v l h := by
    have h1 : 0 < P.types.size := Nat.lt_of_le_of_lt (Nat.zero_le k) hrow
    obtain ⟨d, hd⟩ : ∃ d, P.types.size + 1 = d + 2 := ⟨P.types.size - 1, by omega⟩
    unfold keyOf at h
    rw [hk] at h
    simp only [hkt, Bool.true_and, hd] at h
    by_cases hf : v.formed P k = true
    · rw [if_pos hf] at h
      cases v <;> simp [Value.formed, hk] at hf
      rename_i cs
      rw [hc] at hf
      obtain ⟨p, q, rfl⟩ : ∃ p q, cs = #[p, q] := by
        obtain ⟨l⟩ := cs
        match l, hf with
        | [p, q], _ => exact ⟨p, q, rfl⟩
      have : (Value.agg #[p, q]).cells.toList = [p, q] := rfl
      rw [this] at h
      cases hq : P.keyLits (d + 2) k [p, q] with
      | none => rw [hq] at h; cases h
      | some ls =>
        rw [hq] at h
        obtain ⟨x, rfl, rfl, rfl⟩ := (lits_two hk he hc hc1 d _ _ _).1 hq
        simp only [Option.map_some, Option.some.injEq] at h
        exact ⟨x, rfl, h.symm⟩
    · rw [if_neg hf] at h; cases h
  inj := Pr.lit_inj
  isK x := trivial
  keyed := Keyed.of_law (deep_law_gate hl hsmall hrow hkt (by rw [hk]))
end
end Go.Proofs.YthckjpcknmmagaaDoor
