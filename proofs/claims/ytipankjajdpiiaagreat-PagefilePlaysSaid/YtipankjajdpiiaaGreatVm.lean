/-
  A map that a call has made, read key by key: any program, any keys, any elements.
-/
import Derived.Test.YtipankjajdpiiaaGreatRg
import Derived.Maps.RangeWalk
import Derived.Maps.OwnSet
namespace Go.Proofs.YtipankjajdpiiaaGreat
open Go.RowKit Go.Maps
set_option maxRecDepth 100000

abbrev DV := DataW Value
def rV (v : Value) : Option (DV × List MemPlace) := some (.held v, [])
/-- keys of a type. -/
structure KeyK (P : Program) (k : TypeId) (κ : Type) where
  kv : κ → Value
  kl : κ → Lit
  key : ∀ x, keyOf P k (kv x) = some (kl x)
  inv : ∀ v l, keyOf P k v = some l → ∃ x, v = kv x ∧ l = kl x
  inj : ∀ x y, kl x = kl y → x = y
  isK : ∀ x, WideAt.IsKeyLit (kl x)
  keyed : Keyed P k
def VD {P : Program} {k : TypeId} {κ : Type} (J : KeyK P k κ) (D : DV) (dom : κ → Option Value) : Prop :=
  ∀ x, (dom x = none → has D (J.kl x) = false) ∧ ∀ v, dom x = some v → has D (J.kl x) = true ∧ ∀ z, D.atKey (J.kl x) z = .held v
/-- block m is a map that reads so. -/
def VM {P : Program} {k : TypeId} {κ : Type} (J : KeyK P k κ) (w : World) (m n : Nat) (dom : κ → Option Value) : Prop :=
  ∃ D : DV, w.ownsMap P k rV m n D ∧ VD J D dom
/-- a range over such a map: which keys are still to come. -/
def VR {P : Program} {k : TypeId} {κ : Type} (J : KeyK P k κ) (w : World) (m r n : Nat) (dom : κ → Option Value) (left : κ → Bool) (cnt : Nat) : Prop :=
  ∃ (D : DV) (lf : Lit → Bool), w.ranges P k rV m r n D lf cnt ∧ VD J D dom ∧ (∀ x, lf (J.kl x) = left x) ∧ ∀ kl, lf kl = true → has D kl = true
section
variable {P : Program} {k : TypeId} {κ : Type} {J : KeyK P k κ} {w w' : World} {m n : Nat} {dom : κ → Option Value}
theorem VM.lt (h : VM J w m n dom) : m < w.heap.size := by obtain ⟨D, h, _⟩ := h; exact h.lt
theorem VM.gr (h : VM J w m n dom) {r : Option Nat} (hg : w.grownBy w' r) (hr : r ≠ some m) : VM J w' m n dom := by
  obtain ⟨D, h, h2⟩ := h
  exact ⟨D, h.kept hg (fun e => hr e.symm), h2⟩
theorem VM.ext (h : VM J w m n dom) (hg : w.grownBy w' none) : VM J w' m n dom := h.gr hg (by simp)
theorem VM.mono (h : VM J w m n dom) {n' : Nat} (hn : n ≤ n') : VM J w m n' dom := by
  obtain ⟨D, h, h2⟩ := h
  exact ⟨D, h.mono hn, h2⟩
theorem VM.made (J : KeyK P k κ) (w : World) : VM J (w.alloc (.map #[] 0)) w.heap.size 0 (fun _ => none) :=
  ⟨_, World.ownsMap_made w _ _ _, fun _ => ⟨fun _ => rfl, fun _ h => by cases h⟩⟩
theorem VM.same (h : VM J w m n dom) (hb : w'.heap[m]? = w.heap[m]?) : VM J w' m n dom := by
  obtain ⟨D, ⟨es, cl, h1, h2⟩, h3⟩ := h
  exact ⟨D, ⟨es, cl, hb.trans h1, h2⟩, h3⟩
theorem rV_inv {v u : Value} {ps : List MemPlace} (h : rV v = some (.held u, ps)) : v = u := by simp [rV] at h; exact h.1
/-- m[x]. -/
theorem VM.look (h : VM J w m n dom) {t e : TypeId} (ht : P.underlying t = some (.map k e)) {z : Value} (hz : (zeroValue e).run P w = .ok z w) (x : κ) :
    (Instr.lookup t (.map (some m)) (J.kv x) false).run P w = .ok ((dom x).getD z) w := by
  obtain ⟨D, h, h0⟩ := h
  obtain ⟨v, ps, hrun, hv⟩ := h.lookup J.keyed ht hz (zd := .held z) (zp := []) rfl (J.key x)
  rw [hrun]
  cases hd : dom x with
  | none => rw [atKey_of_not_has ((h0 x).1 hd)] at hv; rw [rV_inv hv]; rfl
  | some b => rw [((h0 x).2 b hd).2] at hv; rw [rV_inv hv]; rfl
/-- m[x], and whether it is there. -/
theorem VM.look2 (h : VM J w m n dom) {t e : TypeId} (ht : P.underlying t = some (.map k e)) {z : Value} (hz : (zeroValue e).run P w = .ok z w) (x : κ) :
    (Instr.lookup t (.map (some m)) (J.kv x) true).run P w = .ok (.tuple #[(dom x).getD z, .bool (dom x).isSome]) w := by
  obtain ⟨D, h, h0⟩ := h
  obtain ⟨v, ps, hrun, hv⟩ := h.look_ok J.keyed ht hz (zd := .held z) (zp := []) rfl (J.key x)
  rw [hrun]
  cases hd : dom x with
  | none => rw [atKey_of_not_has ((h0 x).1 hd)] at hv; rw [rV_inv hv, (h0 x).1 hd]; rfl
  | some b => rw [((h0 x).2 b hd).2] at hv; rw [rV_inv hv, ((h0 x).2 b hd).1]; rfl
theorem VM.isMap {D : DV} (K : Keyed P k) (h : w.ownsMap P k rV m n D) : IsMap D := by
  obtain ⟨es, e, _⟩ := h.entries K; exact ⟨es, e⟩
theorem VD.put {D : DV} (hD : IsMap D) (h : VD J D dom) [DecidableEq κ] (x : κ) (v : Value) : VD J (D.put (J.kl x) (.held v)) (fun y => if y = x then some v else dom y) := by
  intro y
  by_cases e : y = x
  · subst e
    simp only [if_true]
    exact ⟨fun h => (by cases h), fun u hu => (by cases hu; exact ⟨has_put_same hD (J.isK _) _, fun z => atKey_put_same hD (J.isK _) _ _⟩)⟩
  · have hne : J.kl y ≠ J.kl x := fun he => e (J.inj _ _ he)
    simp only [e, if_false]
    exact ⟨fun hn => by rw [has_put_other hne]; exact (h y).1 hn, fun u hu => ⟨by rw [has_put_other hne]; exact ((h y).2 u hu).1, fun z => by rw [atKey_put_other hne]; exact ((h y).2 u hu).2 z⟩⟩
/-- m[x] = v. -/
theorem wp_vm_put [DecidableEq κ] {ops : Array Oper} {rest : List Oper} {o : Oper} {a : Act} {Q : Exit → Act → World → Prop} (hg : o.guard = none) {t e : TypeId} (mm x v : Operand) (hop : o.op = .mapUpdate t mm x v)
    (ht : P.underlying t = some (.map k e)) (h : VM J w m n dom) (hm : a.eval mm = .map (some m)) (hn : n < maxLen) (y : κ) (hx : a.eval x = J.kv y) (u : Value) (hv : a.eval v = u)
    (hK : ∀ w', VM J w' m (n + 1) (fun z => if z = y then some u else dom z) → w.grownBy w' (some m) → wpList P ops Q rest (a.put o.dst undef) w') : wpList P ops Q (o :: rest) a w := by
  obtain ⟨D, h, h0⟩ := h
  exact wpList_mapUpdate_own w hg mm x v _ hop k e J.keyed ht rV m n D hm h hn _ _ _ hx hv (J.key y) (.held u) [] rfl
    fun w' h' g' => hK w' ⟨_, h', VD.put (VM.isMap J.keyed h) h0 y u⟩ g'
theorem VR.vm {r cnt : Nat} {left : κ → Bool} (h : VR J w m r n dom left cnt) : VM J w m n dom := by
  obtain ⟨D, lf, h, h0, _⟩ := h
  exact ⟨D, h.owns, h0⟩
theorem VR.gr {r cnt : Nat} {left : κ → Bool} (h : VR J w m r n dom left cnt) {q : Option Nat} (hg : w.grownBy w' q) (hq : q ≠ some m) (hr : q ≠ some r) : VR J w' m r n dom left cnt := by
  obtain ⟨D, lf, h, h2⟩ := h
  exact ⟨D, lf, h.kept hg (fun e => hq e.symm) (fun e => hr e.symm), h2⟩
theorem VR.left_eq {r cnt : Nat} {left : κ → Bool} (h : VR J w m r n dom left cnt) : w.rangeLeft m r = cnt := by
  obtain ⟨D, lf, h, _⟩ := h; exact h.left_eq
theorem VR.lt {r cnt : Nat} {left : κ → Bool} (h : VR J w m r n dom left cnt) : r < w.heap.size ∧ r ≠ m := by
  obtain ⟨D, lf, h, _⟩ := h; exact ⟨h.lt, h.ne⟩
/-- range m. -/
theorem wp_vm_range {ops : Array Oper} {rest : List Oper} {o : Oper} {a : Act} {Q : Exit → Act → World → Prop} (hg : o.guard = none) {t e : TypeId} (mm : Operand) (hop : o.op = .range t mm)
    (ht : P.underlying t = some (.map k e)) (h : VM J w m n dom) (hm : a.eval mm = .map (some m))
    (hK : ∀ w' cnt, cnt ≤ n → VR J w' m w.heap.size n dom (fun x => (dom x).isSome) cnt → w.grownBy w' none → w'.heap.size = w.heap.size + 1 → wpList P ops Q rest (a.put o.dst (.pointer (some ⟨w.heap.size, 0, none⟩))) w') :
    wpList P ops Q (o :: rest) a w := by
  obtain ⟨D, h, h0⟩ := h
  exact wpList_range_own w hg mm _ hop k e J.keyed ht rV m n D hm h
    fun w' r1 r2 r3 => hK w' _ h.size_le ⟨D, _, r1, h0, fun x => by
      cases hd : dom x with
      | none => show _ = (dom x).isSome; rw [hd]; exact (h0 x).1 hd
      | some b => show _ = (dom x).isSome; rw [hd]; exact ((h0 x).2 b hd).1, fun _ e => e⟩ r2 r3
/-- the step. -/
theorem wp_vm_next [BEq κ] [LawfulBEq κ] {ops : Array Oper} {rest : List Oper} {o : Oper} {a : Act} {Q : Exit → Act → World → Prop} (hg : o.guard = none) (it : Operand) (hop : o.op = .next it false)
    {r cnt : Nat} {left : κ → Bool} (h : VR J w m r n dom left cnt) (hit : a.eval it = .pointer (some ⟨r, 0, none⟩))
    (hDone : cnt = 0 → (∀ x, left x = false) → wpList P ops Q rest (a.put o.dst (.tuple #[.bool false])) w)
    (hMore : ∀ (x : κ) (u : Value) (w' : World) (cnt' : Nat), left x = true → dom x = some u → VR J w' m r n dom (fun y => left y && !(y == x)) cnt' → cnt' < cnt → w.grownBy w' (some r) → w'.heap.size = w.heap.size →
      (Instr.entry (.pointer (some ⟨r, 0, none⟩))).run P w' = .ok (.tuple #[J.kv x, u]) w' → wpList P ops Q rest (a.put o.dst (.tuple #[.bool true, J.kv x, u])) w') :
    wpList P ops Q (o :: rest) a w := by
  obtain ⟨D, lf, h, h0, h2, h3⟩ := h
  refine wpList_plain hg fun K' hK' => ?_
  unfold Oper.wp
  rcases h.next J.keyed o.type with ⟨hc, hl, hrun⟩ | ⟨key, v, kl, y, w', cnt', hkey, hlk, hv, hat, hrun, hrg, hlt, hgr, hsz, hen⟩
  · simp [execOp, hop, hit, hrun, Result.andThen]
    exact hK' _ _ (hDone hc fun s => by rw [← h2]; exact hl _)
  · obtain ⟨s, rfl, rfl⟩ := J.inv _ _ hkey
    have hls : left s = true := by rw [← h2]; exact hlk
    cases hd : dom s with
    | none => have := h3 _ hlk; rw [(h0 s).1 hd] at this; cases this
    | some b =>
      have hy := hat .nil
      rw [((h0 s).2 b hd).2] at hy
      obtain ⟨y1, y2⟩ := y
      simp only at hy
      subst hy
      obtain rfl := rV_inv hv
      simp [execOp, hop, hit, hrun, Result.andThen]
      refine hK' _ _ (hMore s v w' cnt' hls hd ⟨D, _, hrg, h0, fun x => ?_, fun kl hk => ?_⟩ hlt hgr hsz hen)
      · show (lf (J.kl x) && !(J.kl x).sameKey (J.kl s)) = (left x && !(x == s))
        rw [h2]
        congr 2
        by_cases e : x = s
        · subst e
          rw [WideAt.sameKey_self (J.isK x)]
          simp
        · rw [sameKey_ne (fun he => e (J.inj _ _ he))]
          symm
          simpa using e
      · exact h3 kl (by simp at hk; exact hk.1)
end
/-! keys that are whole numbers below 2^32 -/
def u32K (P : Program) (k : TypeId) (hk : P.underlying k = some (.int .u32)) : KeyK P k UInt32 where
  kv x := .int .u32 x.toNat
  kl x := .int .u32 x.toNat
  key x := keyOf_int_mk hk (by have := x.toNat_lt; have e1 : IntKind.u32.min = 0 := rfl; have e2 : IntKind.u32.max = 4294967295 := rfl; simp [Lit.wf, e1, e2]; omega)
  inv v l h := by
    obtain ⟨x, rfl, rfl, hw⟩ := keyOf_int_inv hk h
    have e1 : IntKind.u32.min = 0 := rfl
    have e2 : IntKind.u32.max = 4294967295 := rfl
    simp [Lit.wf, e1, e2] at hw
    obtain ⟨y, rfl⟩ : ∃ y : UInt32, x = (y.toNat : Int) := ⟨UInt32.ofNat x.toNat, by rw [UInt32.toNat_ofNat_of_lt' (by show _ < 4294967296; omega)]; omega⟩
    exact ⟨y, rfl, rfl⟩
  inj x y h := by
    have : (x.toNat : Int) = y.toNat := by simpa using h
    exact UInt32.toNat_inj.1 (by omega)
  isK x := trivial
  keyed := int_keyed hk
end Go.Proofs.YtipankjajdpiiaaGreat
