/-
  PagefileTells, the walk.
-/
import Derived.Test.YtapiocldoignoaaPfNum
namespace Go.Proofs.Ytapiocldoignoaa
open Go.RowKit
set_option maxRecDepth 100000
set_option maxHeartbeats 400000

theorem flipL_at (l : List UInt8) (p j : Nat) (m : UInt8) : (flipL l p m)[j]? = if p = j ∧ p < l.length then some (l.getD p 0 ^^^ m) else l[j]? := by
  unfold flipL
  rw [List.getElem?_set]
  by_cases h : p = j
  · subst h
    by_cases h2 : p < l.length
    · rw [if_pos rfl, if_pos h2, if_pos ⟨rfl, h2⟩]
    · rw [if_pos rfl, if_neg h2, if_neg (fun h => h2 h.2), List.getElem?_eq_none (by omega)]
  · rw [if_neg h, if_neg (fun h' => h h'.1)]
theorem pgA_flip {c : List UInt8} {n k r j : Nat} {m : UInt8} (hc : c.length = 256 * n) (hk : k < n) (hr : r < 256) (hj : j < n) : pgA (flipL c (256 * k + r) m) j = if j = k then flipL (pgA c k) r m else pgA c j := by
  have hl : (flipL c (256 * k + r) m).length = 256 * n := by rw [flipL_len, hc]
  by_cases e : j = k
  · subst e
    rw [if_pos rfl]
    refine pgA_ext (pgA_len hl hj) (by rw [flipL_len]; exact pgA_len hc hj) fun i hi => ?_
    have hg : (pgA c j).getD r 0 = c.getD (256 * j + r) 0 := by
      rw [List.getD_eq_getElem?_getD, List.getD_eq_getElem?_getD, pgA_at _ _ _ hr]
    rw [pgA_at _ _ _ hi, flipL_at, flipL_at, hg, pgA_at _ _ _ hi, pgA_len hc hj]
    by_cases h : r = i
    · rw [if_pos ⟨by omega, by omega⟩, if_pos ⟨h, hr⟩]
    · rw [if_neg (fun h' => h (by omega)), if_neg (fun h' => h h'.1)]
  · rw [if_neg e]
    refine pgA_ext (pgA_len hl hj) (pgA_len hc hj) fun i hi => ?_
    rw [pgA_at _ _ _ hi, pgA_at _ _ _ hi, flipL_at, if_neg (fun h => by omega)]
theorem bit_on {T i : Nat} (h : T / 2 ^ i % 2 = 1) : T % 2 ^ (i + 1) = T % 2 ^ i ^^^ 2 ^ i := by
  have hb : T.testBit i = true := by rw [Nat.testBit_eq_decide_div_mod_eq, h]; rfl
  apply Nat.eq_of_testBit_eq
  intro j
  rw [Nat.testBit_xor, Nat.testBit_mod_two_pow, Nat.testBit_mod_two_pow, Nat.testBit_two_pow]
  by_cases hj : j = i
  · subst hj; simp [hb]
  · by_cases h1 : j < i
    · have : j < i + 1 := by omega
      have h3 : ¬ i = j := by omega
      simp [h1, this, h3]
    · have : ¬ j < i + 1 := by omega
      have h3 : ¬ i = j := by omega
      simp [h1, this, h3]
theorem bit_off {T i : Nat} (h : ¬ T / 2 ^ i % 2 = 1) : T % 2 ^ (i + 1) = T % 2 ^ i := by
  have := Nat.mod_pow_succ (x := T) (b := 2) (k := i)
  rw [this, show T / 2 ^ i % 2 = 0 from by omega, Nat.mul_zero, Nat.add_zero]
theorem bit_and (T i : Nat) (hT : T < 2 ^ 32) : bits .and .u32 ((T : Int) / 2 ^ i) 1 = ((T / 2 ^ i % 2 : Nat) : Int) := by
  have e : (T : Int) / 2 ^ i = ((T / 2 ^ i : Nat) : Int) := by push_cast; rfl
  have : T / 2 ^ i ≤ T := Nat.div_le_self _ _
  rw [e, u32_and_one _ (by omega)]
theorem u32_or_one (x : Nat) (hx : x < 4294967296) : ∃ T : Nat, bits .or .u32 (x : Int) 1 = (T : Int) ∧ T % 2 = 1 ∧ T < 2 ^ 32 := by
  have h1 : x % 2 ^ 32 = x := Nat.mod_eq_of_lt hx
  have h2 : x ||| 1 < 2 ^ 32 := Nat.or_lt_two_pow (n := 32) hx (by omega)
  refine ⟨x ||| 1, ?_, ?_, h2⟩
  · show IntKind.u32.wrap (((BitVec.ofInt 32 (x : Int) ||| BitVec.ofInt 32 ((1 : Nat) : Int)).toNat : Nat) : Int) = _
    rw [BitVec.toNat_or, BitVec.ofInt_natCast, BitVec.ofInt_natCast, BitVec.toNat_ofNat, BitVec.toNat_ofNat, h1, show 1 % 2 ^ 32 = 1 from rfl, IntWalk.u32_in _ (by omega)]
  · simp
/-- what the flips keep. -/
def TelR (w : World) (d pf n : Nat) (cc : List UInt8) (kn W f0 : Nat) (wr : World) : Prop :=
  ∃ c', PgC w wr d pf 4096 n n c' ∧ (∀ j, j < n → j ≠ kn → pgA c' j = pgA cc j) ∧ rdN (pgA c' kn) = rdN (pgA cc kn) ^^^ (W * 2 ^ f0)
theorem TelR.start {w wr : World} {d pf n : Nat} {cc : List UInt8} (kn f0 : Nat) (h : PgC w wr d pf 4096 n n cc) : TelR w d pf n cc kn 0 f0 wr :=
  ⟨cc, h, fun _ _ _ => rfl, by rw [Nat.zero_mul, Nat.xor_zero]⟩
theorem TelR.flip {w wr : World} {d pf n : Nat} {cc : List UInt8} {kn W f0 : Nat} (h : TelR w d pf n cc kn W f0 wr) (hk : kn < n) (i : Nat) (hi : f0 + i < 2048) (m : UInt8) (hm : m.toNat = 2 ^ ((f0 + i) % 8)) :
    Calls Try.prog 23 #[.pointer (some ⟨d, 0, none⟩), .string ⟨an.toArray⟩, .int .i64 (256 * kn + (f0 + i) / 8 : Nat), .int .u8 m.toNat] wr fun e w' => e = .returned (.int .i64 0) ∧ TelR w d pf n cc kn (W ^^^ 2 ^ i) f0 w' := by
  obtain ⟨c', h1, h2, h3⟩ := h
  have hm0 : m ≠ 0 := fun e => by rw [e] at hm; have := Nat.two_pow_pos ((f0 + i) % 8); simp at hm; omega
  have hl := h1.len
  refine (h1.flip (p := 256 * kn + (f0 + i) / 8) (by omega) hm0).mono ?_
  rintro e w' ⟨rfl, p'⟩
  refine ⟨rfl, _, p', fun j hj hne => ?_, ?_⟩
  · rw [pgA_flip hl hk (by omega) hj, if_neg hne, h2 j hj hne]
  · rw [pgA_flip hl hk (by omega) hk, if_pos rfl, rdN_flip _ _ _ (by rw [pgA_len hl hk]; omega), h3, hm, Nat.xor_assoc]
    congr 1
    have e1 : 2 ^ ((f0 + i) % 8) * 2 ^ (8 * ((f0 + i) / 8)) = 2 ^ i * 2 ^ f0 := by
      rw [← Nat.pow_add, ← Nat.pow_add]; congr 1; omega
    rw [e1]
    apply Nat.eq_of_testBit_eq
    intro j
    rw [Nat.mul_comm W, Nat.mul_comm (2 ^ i), Nat.mul_comm (W ^^^ 2 ^ i)]
    simp only [Nat.testBit_xor, Nat.testBit_two_pow_mul]
    cases decide (j ≥ f0) <;> simp
/-- what is told then. -/
theorem TelR.told {w wr : World} {d pf n : Nat} {cc : List UInt8} {kn W f0 : Nat} {g : Nat → List UInt8} (h : TelR w d pf n cc kn W f0 wr) (hh : Holds cc (crcS an) n g) (hk : kn < n) (hW : W ≠ 0) (hW2 : W < 2 ^ 32) (hf0 : f0 ≤ 2016) :
    ∃ c', PgC w wr d pf 4096 n n c' ∧ badC c' n = [kn] ∧ pagO (pgA c' kn) (crcS an) kn = none ∧ ∀ j, j < n → j ≠ kn → pagO (pgA c' j) (crcS an) j = some (g j) := by
  obtain ⟨c', h1, h2, h3⟩ := h
  have hb : pagO (pgA c' kn) (crcS an) kn = none := pagO_burst (hh.at_ kn hk) W f0 hW hW2 (by omega) (pgA_len h1.len hk) h3
  have ho : ∀ j, j < n → j ≠ kn → pagO (pgA c' j) (crcS an) j = some (g j) := fun j hj hne => by rw [h2 j hj hne]; exact hh.at_ j hj
  refine ⟨c', h1, ?_, hb, ho⟩
  unfold badC
  exact filter_one n kn _ hk (by rw [hb]; rfl) fun j hj hne => by rw [ho j hj hne]; rfl
end Go.Proofs.Ytapiocldoignoaa
