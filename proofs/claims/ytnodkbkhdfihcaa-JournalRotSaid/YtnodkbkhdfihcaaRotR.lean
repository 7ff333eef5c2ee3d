/-
  JournalRot: what the flips keep, and what is read then.
-/
import Derived.Test.YtnodkbkhdfihcaaMovP
import Derived.Test.YtnodkbkhdfihcaaRotB
namespace Go.Proofs.Ytnodkbkhdfihcaa
open Go.RowKit
set_option maxRecDepth 100000
set_option maxHeartbeats 400000

/-- what the flips keep. -/
def RotR (w : World) (d : Nat) (l : List Rc) (kn : Nat) (hk : kn < l.length) (W f0 : Nat) (wr : World) : Prop :=
  ∃ o c S f, DI wr w.heap.size o d S c ∧ Idle S ∧ S.find jn = some f ∧ f.now.length = 64 * l.length ∧ f.now.take (64 * kn) = (secs 0 l).take (64 * kn) ∧
    rdN ((f.now.drop (64 * kn)).take 64) = rdN (secB (kn + 1) l[kn]) ^^^ (W * 2 ^ f0) ∧ w.grownBy wr none
theorem RotR.start {w wr : World} {d : Nat} {l : List Rc} {kn : Nat} (hk : kn < l.length) (f0 : Nat) {o : Own1} {c : Con} {S : Dk} (h : DI wr w.heap.size o d S c) (hf : Full S l) (hg : w.grownBy wr none) : RotR w d l kn hk 0 f0 wr := by
  obtain ⟨la, e⟩ := hf.find
  refine ⟨o, c, S, _, h, hf.1, e, secs_len 0 l, rfl, ?_, hg⟩
  show rdN (((secs 0 l).drop (64 * kn)).take 64) = _
  rw [secs_at 0 l kn hk, Nat.zero_mul, Nat.xor_zero, Nat.zero_add]
theorem flipL_take (l : List UInt8) (p q : Nat) (m : UInt8) (h : q ≤ p) : (flipL l p m).take q = l.take q := by
  apply List.ext_getElem?
  intro j
  rw [List.getElem?_take, List.getElem?_take]
  split
  · unfold flipL; rw [List.getElem?_set, if_neg (by omega)]
  · rfl
theorem flipL_sec (l : List UInt8) (a p : Nat) (m : UInt8) (h : p < 64) (hl : a + 64 ≤ l.length) : ((flipL l (a + p) m).drop a).take 64 = flipL ((l.drop a).take 64) p m := by
  apply List.ext_getElem?
  intro j
  unfold flipL
  have e : ((l.drop a).take 64).getD p 0 = l.getD (a + p) 0 := by
    simp [List.getD, List.getElem?_drop, h]
  rw [List.getElem?_take, List.getElem?_drop, List.getElem?_set, List.getElem?_set, List.getElem?_take, List.getElem?_drop]
  by_cases hj : j < 64
  · by_cases hp : p = j
    · subst hp
      rw [if_pos hj, if_pos rfl, if_pos (by omega), if_pos rfl, if_pos (by rw [List.length_take, List.length_drop]; omega), e]
    · rw [if_pos hj, if_neg (by omega), if_neg hp, if_pos hj]
  · rw [if_neg hj, if_neg (by omega), if_neg hj]
theorem find_flip (S : Dk) (n : List UInt8) (p : Nat) (m : UInt8) (s : List UInt8) : (S.flip n p m).find s = (S.find s).map fun f => if f.name = n then { f with now := flipL f.now p m, lasts := flipL f.lasts p m } else f := find_setF _ _ _ fun _ => rfl
theorem RotR.flip {w wr : World} {d : Nat} {l : List Rc} {kn : Nat} {hk : kn < l.length} {W f0 : Nat} (h : RotR w d l kn hk W f0 wr) (i : Nat) (hi : f0 + i < 512) (m : UInt8) (hm : m.toNat = 2 ^ ((f0 + i) % 8)) :
    Calls Try.prog 26 #[.pointer (some ⟨d, 0, none⟩), .string ⟨jn.toArray⟩, .int .i64 (64 * kn + (f0 + i) / 8 : Nat), .int .u8 m.toNat] wr fun e w' => e = .returned (.int .i64 0) ∧ RotR w d l kn hk (W ^^^ 2 ^ i) f0 w' := by
  obtain ⟨o, c, S, f, h1, h2, h3, h4, h5, h6, h7⟩ := h
  have hm0 : m ≠ 0 := fun e => by rw [e] at hm; have := Nat.two_pow_pos ((f0 + i) % 8); simp at hm; omega
  have hn : f.name = jn := (find_some h3).2
  refine (flip_any h1 h2 jn (by simp) jn_right h3 (64 * kn + (f0 + i) / 8) (by omega) m hm0).mono ?_
  rintro e w' ⟨rfl, o', c', k1, k2⟩
  refine ⟨rfl, o', c', _, _, k1, h2, by rw [find_flip, h3]; simp only [Option.map_some, hn, if_true]; rfl, ?_, ?_, ?_, k2.gr h7 fun i hi => (h1.inb i hi).1⟩
  · show (flipL f.now _ m).length = _
    rw [flipL_len, h4]
  · show (flipL f.now _ m).take _ = _
    rw [flipL_take _ _ _ _ (by omega), h5]
  · show rdN (((flipL f.now _ m).drop _).take 64) = _
    rw [flipL_sec _ _ _ _ (by omega) (by omega), rdN_flip _ _ _ (by rw [List.length_take, List.length_drop]; omega), h6, hm, Nat.xor_assoc]
    congr 1
    have e1 : 2 ^ ((f0 + i) % 8) * 2 ^ (8 * ((f0 + i) / 8)) = 2 ^ i * 2 ^ f0 := by
      rw [← Nat.pow_add, ← Nat.pow_add]; congr 1; omega
    rw [e1]
    apply Nat.eq_of_testBit_eq
    intro j
    rw [Nat.mul_comm W, Nat.mul_comm (2 ^ i), Nat.mul_comm (W ^^^ 2 ^ i)]
    simp only [Nat.testBit_xor, Nat.testBit_two_pow_mul]
    cases decide (j ≥ f0) <;> simp
theorem bit_on {T i : Nat} (h : T / 2 ^ i % 2 = 1) : T % 2 ^ (i + 1) = T % 2 ^ i ^^^ 2 ^ i := by
  have hb : T.testBit i = true := by rw [Nat.testBit_eq_decide_div_mod_eq, h]; rfl
  apply Nat.eq_of_testBit_eq
  intro j
  rw [Nat.testBit_xor, Nat.testBit_mod_two_pow, Nat.testBit_mod_two_pow, Nat.testBit_two_pow]
  by_cases hj : j = i
  · subst hj; simp [hb]
  · by_cases h1 : j < i
    · have : j < i + 1 := by omega
      have h3 : ¬ i = j := by omega
      simp [h1, this, h3]
    · have : ¬ j < i + 1 := by omega
      have h3 : ¬ i = j := by omega
      simp [h1, this, h3]
theorem bit_off {T i : Nat} (h : ¬ T / 2 ^ i % 2 = 1) : T % 2 ^ (i + 1) = T % 2 ^ i := by
  have := Nat.mod_pow_succ (x := T) (b := 2) (k := i)
  rw [this, show T / 2 ^ i % 2 = 0 from by omega, Nat.mul_zero, Nat.add_zero]
theorem bit_and (T i : Nat) (hT : T < 2 ^ 32) : bits .and .u32 ((T : Int) / 2 ^ i) 1 = ((T / 2 ^ i % 2 : Nat) : Int) := by
  have e : (T : Int) / 2 ^ i = ((T / 2 ^ i : Nat) : Int) := by push_cast; rfl
  have : T / 2 ^ i ≤ T := Nat.div_le_self _ _
  rw [e, u32_and_one _ (by omega)]
theorem u32_or_one (x : Nat) (hx : x < 4294967296) : ∃ T : Nat, bits .or .u32 (x : Int) 1 = (T : Int) ∧ T % 2 = 1 ∧ T < 2 ^ 32 := by
  have h1 : x % 2 ^ 32 = x := Nat.mod_eq_of_lt hx
  have h2 : x ||| 1 < 2 ^ 32 := Nat.or_lt_two_pow (n := 32) hx (by omega)
  refine ⟨x ||| 1, ?_, ?_, h2⟩
  · show IntKind.u32.wrap (((BitVec.ofInt 32 (x : Int) ||| BitVec.ofInt 32 ((1 : Nat) : Int)).toNat : Nat) : Int) = _
    rw [BitVec.toNat_or, BitVec.ofInt_natCast, BitVec.ofInt_natCast, BitVec.toNat_ofNat, BitVec.toNat_ofNat, h1, show 1 % 2 ^ 32 = 1 from rfl, IntWalk.u32_in _ (by omega)]
  · simp
theorem RotR.recs {w wr : World} {d : Nat} {l : List Rc} {kn : Nat} {hk : kn < l.length} {W f0 : Nat} (h : RotR w d l kn hk W f0 wr) (hl : l.length ≤ 40) (hf0 : f0 ≤ 480) (hW : W ≠ 0) (hW2 : W < 2 ^ 32) (h0 : ∀ r ∈ l, r.k ≠ 0) :
    ∃ o c S f, DI wr w.heap.size o d S c ∧ Idle S ∧ S.find jn = some f ∧ jRecs S = l.take kn ∧ w.grownBy wr none := by
  obtain ⟨o, c, S, f, h1, h2, h3, h4, h5, h6, h7⟩ := h
  refine ⟨o, c, S, f, h1, h2, h3, ?_, h7⟩
  have hm : (l.take kn).length = kn := by rw [List.length_take]; omega
  have e : f.now = secs 0 (l.take kn) ++ f.now.drop (64 * kn) := by
    obtain ⟨T, e1, hT⟩ := secs_take l (64 * kn) (by omega)
    rw [show 64 * kn / 64 = kn from by omega] at e1
    have hT0 : T = [] := by
      have := congrArg List.length e1
      rw [List.length_take, secs_len, List.length_append, secs_len, hm] at this
      exact List.eq_nil_of_length_eq_zero (by omega)
    rw [hT0, List.append_nil] at e1
    rw [← e1, ← h5, List.take_append_drop]
  have er : readJ f.now = l.take kn := by
    unfold readJ
    rw [e]
    refine readF_secs _ 0 _ _ (fun r hr => h0 r (List.mem_of_mem_take hr)) (by omega) ?_ (readF_bad (.inr ?_))
    · rw [List.length_append, secs_len]; omega
    · rw [hm, Nat.zero_add]
      exact secB_burst (kn + 1) (kn + 1) l[kn] _ W f0 hW hW2 (by omega) _ (by rw [List.length_take, List.length_drop]; omega) h6
  unfold jRecs
  rw [h3]
  exact er
end Go.Proofs.Ytnodkbkhdfihcaa
