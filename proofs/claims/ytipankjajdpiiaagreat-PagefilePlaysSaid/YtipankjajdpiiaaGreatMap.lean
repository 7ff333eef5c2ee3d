/-
  Maps, read by key: names to blocks, sectors to true.
-/
import Derived.Test.YtipankjajdpiiaaGreatRg
import Derived.Maps.RangeWalk
import Derived.DeepKeys4
namespace Go.Proofs.YtipankjajdpiiaaGreat
open Go.RowKit Go.Maps
set_option maxRecDepth 100000

abbrev Dt := DataW Unit

/-! names to blocks -/
def ptrElem (v : Value) : Option (Dt × List MemPlace) :=
  match v with
  | .pointer (some ⟨b, 0, none⟩) => some (.lit (.int .i64 b), [])
  | .pointer none => some (.nil, [])
  | _ => none
theorem ptrElem_lit {v : Value} {b : Nat} {ps : List MemPlace} (h : ptrElem v = some (.lit (.int .i64 b), ps)) : v = .pointer (some ⟨b, 0, none⟩) := by
  unfold ptrElem at h
  split at h
  · rename_i c
    simp at h
    rw [show c = b from by omega]
  · simp at h
  · simp at h
theorem ptrElem_nil {v : Value} {ps : List MemPlace} (h : ptrElem v = some (.nil, ps)) : v = .pointer none := by
  unfold ptrElem at h
  split at h
  · simp at h
  · rfl
  · simp at h
theorem Tryz.keyedS : Keyed Tryz.prog 9 := string_keyed Tryz.underlying9
theorem Tryz.zeroF (w : World) : (zeroValue 97).run Tryz.prog w = .ok (.pointer none) w := by kernel_rfl
def strV0 (l : List UInt8) : Value := .string ⟨l.toArray⟩
theorem keyS {s : List UInt8} (hs : s.length ≤ maxLen) : keyOf Tryz.prog 9 (.string ⟨s.toArray⟩) = some (.string s) := by
  have hz : (⟨s.toArray⟩ : ByteArray).size ≤ maxLen := hs
  simp [keyOf, Tryz.underlying9, mapKey, hz]
theorem keyS_inv {v : Value} {kl : Lit} (h : keyOf Tryz.prog 9 v = some kl) : ∃ s : List UInt8, v = .string ⟨s.toArray⟩ ∧ kl = .string s ∧ s.length ≤ maxLen := by
  cases v <;> simp [keyOf, Tryz.underlying9, mapKey] at h
  rename_i s
  obtain ⟨hs, rfl⟩ := h
  exact ⟨s.data.toList, by cases s; simp, rfl, hs⟩

/-- block m is a map of names that reads so: the block that a name's pointer is of. -/
def FM (w : World) (m n : Nat) (dom : List UInt8 → Option Nat) : Prop :=
  ∃ D : Dt, w.ownsMap Tryz.prog 9 ptrElem m n D ∧ (∀ s, s.length ≤ maxLen → dom s = none → has D (.string s) = false) ∧
    ∀ s b, dom s = some b → s.length ≤ maxLen ∧ has D (.string s) = true ∧ ∀ z, D.atKey (.string s) z = .lit (.int .i64 b)
section
variable {w w' : World} {m n : Nat} {dom : List UInt8 → Option Nat}
theorem FM.lt (h : FM w m n dom) : m < w.heap.size := by obtain ⟨D, h, _⟩ := h; exact h.lt
theorem FM.gr (h : FM w m n dom) {r : Option Nat} (hg : w.grownBy w' r) (hr : r ≠ some m) : FM w' m n dom := by
  obtain ⟨D, h, h2⟩ := h
  exact ⟨D, h.kept hg (fun e => hr e.symm), h2⟩
theorem FM.mono (h : FM w m n dom) {n' : Nat} (hn : n ≤ n') : FM w m n' dom := by
  obtain ⟨D, h, h2⟩ := h
  exact ⟨D, h.mono hn, h2⟩
theorem FM.made (w : World) : FM (w.alloc (.map #[] 0)) w.heap.size 0 (fun _ => none) :=
  ⟨_, World.ownsMap_made w _ _ _, fun _ _ _ => rfl, fun _ _ h => by cases h⟩
/-- m[s]. -/
theorem FM.look (h : FM w m n dom) {s : List UInt8} (hs : s.length ≤ maxLen) :
    (Instr.lookup 71 (.map (some m)) (.string ⟨s.toArray⟩) false).run Tryz.prog w = .ok (.pointer ((dom s).map fun b => ⟨b, 0, none⟩)) w := by
  obtain ⟨D, h, h0, h1⟩ := h
  obtain ⟨v, ps, hrun, hv⟩ := h.lookup Tryz.keyedS Tryz.underlying71 (Tryz.zeroF w) (zd := .nil) (zp := []) rfl (keyS hs)
  rw [hrun]
  cases hd : dom s with
  | none =>
    rw [atKey_of_not_has (h0 s hs hd)] at hv
    rw [ptrElem_nil hv]; rfl
  | some b =>
    rw [(h1 s b hd).2.2] at hv
    rw [ptrElem_lit hv]; rfl
theorem string_ne {s x : List UInt8} (h : x ≠ s) : Lit.string x ≠ Lit.string s := fun e => h (by cases e; rfl)
theorem FM.of_put {D : Dt} (hD : IsMap D) (h0 : ∀ s, s.length ≤ maxLen → dom s = none → has D (.string s) = false) (h1 : ∀ s b, dom s = some b → s.length ≤ maxLen ∧ has D (.string s) = true ∧ ∀ z, D.atKey (.string s) z = .lit (.int .i64 b))
    {s : List UInt8} (hs : s.length ≤ maxLen) (b : Nat) (h : w.ownsMap Tryz.prog 9 ptrElem m n (D.put (.string s) (.lit (.int .i64 b)))) : FM w m n (fun x => if x = s then some b else dom x) := by
  refine ⟨_, h, fun x hx hn => ?_, fun x c hc => ?_⟩
  · by_cases e : x = s
    · simp [e] at hn
    · simp only [e, if_false] at hn
      rw [has_put_other (string_ne e)]; exact h0 x hx hn
  · by_cases e : x = s
    · subst e
      simp only [if_true, Option.some.injEq] at hc
      subst hc
      exact ⟨hs, has_put_same hD (k := .string x) trivial _, fun z => atKey_put_same hD (k := .string x) trivial _ _⟩
    · simp only [e, if_false] at hc
      obtain ⟨h2, h3, h4⟩ := h1 x c hc
      exact ⟨h2, by rw [has_put_other (string_ne e)]; exact h3, fun z => by rw [atKey_put_other (string_ne e)]; exact h4 z⟩
theorem FM.isMap {D : Dt} (h : w.ownsMap Tryz.prog 9 ptrElem m n D) : IsMap D := by
  obtain ⟨es, e, _⟩ := h.entries Tryz.keyedS; exact ⟨es, e⟩
/-- m[s] = p. -/
theorem wp_fm_put {ops : Array Oper} {rest : List Oper} {o : Oper} {a : Act} {Q : Exit → Act → World → Prop} (hg : o.guard = none) (mm x v : Operand) (hop : o.op = .mapUpdate 71 mm x v)
    (h : FM w m n dom) (hm : a.eval mm = .map (some m)) (hn : n < maxLen) {s : List UInt8} (hs : s.length ≤ maxLen) (hx : a.eval x = .string ⟨s.toArray⟩) (b : Nat) (hv : a.eval v = .pointer (some ⟨b, 0, none⟩))
    (hK : ∀ w', FM w' m (n + 1) (fun x => if x = s then some b else dom x) → w.grownBy w' (some m) → wpList Tryz.prog ops Q rest (a.put o.dst undef) w') : wpList Tryz.prog ops Q (o :: rest) a w := by
  obtain ⟨D, h, h0, h1⟩ := h
  exact wpList_mapUpdate_own w hg mm x v _ hop 9 97 Tryz.keyedS Tryz.underlying71 ptrElem m n D hm h hn _ _ _ hx hv (keyS hs) (.lit (.int .i64 b)) [] rfl
    fun w' h' g' => hK w' (FM.of_put (FM.isMap h) h0 h1 hs b h') g'
/-- delete(m, s). -/
theorem wp_fm_del {ops : Array Oper} {rest : List Oper} {o : Oper} {a : Act} {Q : Exit → Act → World → Prop} (hg : o.guard = none) (mm x : Operand) (hop : o.op = .call { callee := .builtin .delete, args := #[mm, x], argTypes := #[71, 9] })
    (h : FM w m n dom) (hm : a.eval mm = .map (some m)) {s : List UInt8} (hs : s.length ≤ maxLen) (hx : a.eval x = .string ⟨s.toArray⟩)
    (hK : ∀ w', FM w' m n (fun x => if x = s then none else dom x) → w.grownBy w' (some m) → wpList Tryz.prog ops Q rest (a.put o.dst (.tuple #[])) w') : wpList Tryz.prog ops Q (o :: rest) a w := by
  obtain ⟨D, h, h0, h1⟩ := h
  refine wpList_delete_own w hg mm x _ _ hop 97 Tryz.keyedS Tryz.underlying71 ptrElem m n D hm h _ _ hx (keyS hs) fun w' h' g' => hK w' ⟨_, h', fun y hy hn => ?_, fun y c hc => ?_⟩ g'.grown
  · by_cases e : y = s
    · subst e; exact has_del_same
    · simp only [e, if_false] at hn
      rw [has_del_other (string_ne e)]; exact h0 y hy hn
  · by_cases e : y = s
    · simp [e] at hc
    · simp only [e, if_false] at hc
      obtain ⟨h2, h3, h4⟩ := h1 y c hc
      exact ⟨h2, by rw [has_del_other (string_ne e)]; exact h3, fun z => by rw [atKey_del_other (string_ne e)]; exact h4 z⟩

/-- a range over such a map: which names are still to come. -/
def FR (w : World) (m r n : Nat) (dom : List UInt8 → Option Nat) (left : List UInt8 → Bool) (cnt : Nat) : Prop :=
  ∃ (D : Dt) (lf : Lit → Bool), w.ranges Tryz.prog 9 ptrElem m r n D lf cnt ∧ (∀ s, s.length ≤ maxLen → dom s = none → has D (.string s) = false) ∧
    (∀ s b, dom s = some b → s.length ≤ maxLen ∧ has D (.string s) = true ∧ ∀ z, D.atKey (.string s) z = .lit (.int .i64 b)) ∧ (∀ s, lf (.string s) = left s) ∧ ∀ kl, lf kl = true → has D kl = true
theorem FR.fm {r cnt : Nat} {left : List UInt8 → Bool} (h : FR w m r n dom left cnt) : FM w m n dom := by
  obtain ⟨D, lf, h, h0, h1, _⟩ := h
  exact ⟨D, h.owns, h0, h1⟩
theorem FR.gr {r cnt : Nat} {left : List UInt8 → Bool} (h : FR w m r n dom left cnt) {q : Option Nat} (hg : w.grownBy w' q) (hq : q ≠ some m) (hr : q ≠ some r) : FR w' m r n dom left cnt := by
  obtain ⟨D, lf, h, h2⟩ := h
  exact ⟨D, lf, h.kept hg (fun e => hq e.symm) (fun e => hr e.symm), h2⟩
theorem FR.left_eq {r cnt : Nat} {left : List UInt8 → Bool} (h : FR w m r n dom left cnt) : w.rangeLeft m r = cnt := by
  obtain ⟨D, lf, h, _⟩ := h; exact h.left_eq
theorem FR.lt {r cnt : Nat} {left : List UInt8 → Bool} (h : FR w m r n dom left cnt) : r < w.heap.size ∧ r ≠ m := by
  obtain ⟨D, lf, h, _⟩ := h; exact ⟨h.lt, h.ne⟩
theorem FR.left_dom {r cnt : Nat} {left : List UInt8 → Bool} (h : FR w m r n dom left cnt) {s : List UInt8} (hs : s.length ≤ maxLen) (hl : left s = true) : (dom s).isSome = true := by
  obtain ⟨D, lf, h, h0, h1, h2, h3⟩ := h
  cases hd : dom s with
  | none => have := h3 _ ((h2 s).trans hl); rw [h0 s hs hd] at this; cases this
  | some b => rfl
/-- range m. -/
theorem wp_fm_range {ops : Array Oper} {rest : List Oper} {o : Oper} {a : Act} {Q : Exit → Act → World → Prop} (hg : o.guard = none) (mm : Operand) (hop : o.op = .range 71 mm)
    (h : FM w m n dom) (hm : a.eval mm = .map (some m))
    (hK : ∀ w' left cnt, FR w' m w.heap.size n dom left cnt → (∀ s b, dom s = some b → left s = true) → w.grownBy w' none → w'.heap.size = w.heap.size + 1 → wpList Tryz.prog ops Q rest (a.put o.dst (.pointer (some ⟨w.heap.size, 0, none⟩))) w') :
    wpList Tryz.prog ops Q (o :: rest) a w := by
  obtain ⟨D, h, h0, h1⟩ := h
  exact wpList_range_own w hg mm _ hop 9 97 Tryz.keyedS Tryz.underlying71 ptrElem m n D hm h
    fun w' r1 r2 r3 => hK w' (fun s => has D (.string s)) _ ⟨D, _, r1, h0, h1, fun _ => rfl, fun _ e => e⟩ (fun s b e => (h1 s b e).2.1) r2 r3
/-- the step. -/
theorem wp_fm_next {ops : Array Oper} {rest : List Oper} {o : Oper} {a : Act} {Q : Exit → Act → World → Prop} (hg : o.guard = none) (it : Operand) (hop : o.op = .next it false)
    {r cnt : Nat} {left : List UInt8 → Bool} (h : FR w m r n dom left cnt) (hit : a.eval it = .pointer (some ⟨r, 0, none⟩))
    (hDone : cnt = 0 → (∀ s, left s = false) → wpList Tryz.prog ops Q rest (a.put o.dst (.tuple #[.bool false])) w)
    (hMore : ∀ (s : List UInt8) (b : Nat) (w' : World) (cnt' : Nat), left s = true → dom s = some b → FR w' m r n dom (fun x => left x && !(x == s)) cnt' → cnt' < cnt → w.grownBy w' (some r) → w'.heap.size = w.heap.size →
      (Instr.entry (.pointer (some ⟨r, 0, none⟩))).run Tryz.prog w' = .ok (.tuple #[.string ⟨s.toArray⟩, .pointer (some ⟨b, 0, none⟩)]) w' → wpList Tryz.prog ops Q rest (a.put o.dst (.tuple #[.bool true, .string ⟨s.toArray⟩, .pointer (some ⟨b, 0, none⟩)])) w') :
    wpList Tryz.prog ops Q (o :: rest) a w := by
  obtain ⟨D, lf, h, h0, h1, h2, h3⟩ := h
  refine wpList_plain hg fun K' hK' => ?_
  unfold Oper.wp
  rcases h.next Tryz.keyedS o.type with ⟨hc, hl, hrun⟩ | ⟨key, v, kl, y, w', cnt', hkey, hlk, hv, hat, hrun, hrg, hlt, hgr, hsz, hen⟩
  · simp [execOp, hop, hit, hrun, Result.andThen]
    exact hK' _ _ (hDone hc fun s => by rw [← h2]; exact hl _)
  · obtain ⟨s, rfl, rfl, hs⟩ := keyS_inv hkey
    have hls : left s = true := by rw [← h2]; exact hlk
    cases hd : dom s with
    | none => have := h3 _ hlk; rw [h0 s hs hd] at this; cases this
    | some b =>
      have hy := hat .nil
      rw [(h1 s b hd).2.2] at hy
      obtain ⟨y1, y2⟩ := y
      simp only at hy
      subst hy
      obtain rfl := ptrElem_lit hv
      simp [execOp, hop, hit, hrun, Result.andThen]
      refine hK' _ _ (hMore s b w' cnt' hls hd ⟨D, _, hrg, h0, h1, fun x => ?_, fun kl hk => ?_⟩ hlt hgr hsz hen)
      · rw [h2]; rfl
      · exact h3 kl (by simp at hk; exact hk.1)
end

/-! sectors -/
theorem Tryz.laidOut : laidOutB Tryz.prog = true := by kernel_rfl
theorem Tryz.keyedK : Keyed Tryz.prog 137 := Keyed.of_law (deep_law_laid Tryz.laidOut (m := 2) (by omega) (of_decide_eq_true (by kernel_rfl)) (by kernel_rfl) (by rw [Tryz.underlying137]))
def kK (s : List UInt8) (k : Int) : Lit := .string (keyBytes [.string s, .int .i64 k])
def vK (s : List UInt8) (k : Int) : Value := .agg #[.string ⟨s.toArray⟩, .int .i64 k]
def okK (s : List UInt8) (k : Int) : Prop := s.length ≤ maxLen ∧ (Lit.int .i64 k).wf = true
theorem Tryz.cellsK : Tryz.prog.cellsOf 137 = 2 := by kernel_rfl
theorem Tryz.ktK : Tryz.prog.keyType 137 = true := by kernel_rfl
theorem keyLits_K (d : Nat) (s : List UInt8) (k : Int) (h : okK s k) : Tryz.prog.keyLits (d + 2) 137 [.string ⟨s.toArray⟩, .int .i64 k] = some [.string s, .int .i64 k] := by
  have hz : (⟨s.toArray⟩ : ByteArray).size ≤ maxLen := h.1
  have c1 : Tryz.prog.cellsOf 9 = 1 := by kernel_rfl
  have c2 : Tryz.prog.cellsOf 3 = 1 := by kernel_rfl
  have e1 : Tryz.prog.keyLits (d + 1) 9 [.string ⟨s.toArray⟩] = some [.string s] := by simp [Program.keyLits, Tryz.underlying9, hz]
  have e2 : Tryz.prog.keyLits (d + 1) 3 [.int .i64 k] = some [.int .i64 k] := by simp [Program.keyLits, Tryz.underlying3, h.2]
  rw [Program.keyLits.eq_def]
  simp [Tryz.underlying137, Tryz.cellsK, c1, c2, e1, e2]
theorem keyK {s : List UInt8} {k : Int} (h : okK s k) : keyOf Tryz.prog 137 (vK s k) = some (kK s k) := by
  obtain ⟨d, hd⟩ : ∃ d, Tryz.prog.types.size + 1 = d + 2 := ⟨Tryz.prog.types.size - 1, by have : 1 ≤ Tryz.prog.types.size := of_decide_eq_true (by kernel_rfl); omega⟩
  have hf : (vK s k).formed Tryz.prog 137 = true := by simp [Value.formed, vK, Tryz.underlying137, Tryz.cellsK]
  have := keyLits_K d s k h
  rw [← hd] at this
  have hc : (vK s k).cells.toList = [.string ⟨s.toArray⟩, .int .i64 k] := rfl
  unfold keyOf
  rw [Tryz.underlying137]
  simp only [Tryz.ktK, hf, Bool.and_true, if_true, hc, this, Option.map_some]
  rfl
theorem keyK_inv {v : Value} {kl : Lit} (h : keyOf Tryz.prog 137 v = some kl) : ∃ s k, v = vK s k ∧ kl = kK s k ∧ okK s k := by
  have h0 := h
  unfold keyOf at h
  rw [Tryz.underlying137] at h
  simp only at h
  split at h
  · rename_i hf
    have hfm : v.formed Tryz.prog 137 = true := by simp only [Bool.and_eq_true] at hf; exact hf.2
    cases v with
    | agg cs =>
      have hsz : cs.size = 2 := by simpa [Value.formed, Tryz.underlying137, Tryz.cellsK] using hfm
      obtain ⟨c0, c1, rfl⟩ : ∃ c0 c1, cs = #[c0, c1] := by
        obtain ⟨l⟩ := cs
        match l, hsz with
        | [a, b], _ => exact ⟨a, b, rfl⟩
      have hc : (Value.agg #[c0, c1]).cells.toList = [c0, c1] := rfl
      rw [hc] at h
      obtain ⟨d, hd⟩ : ∃ d, Tryz.prog.types.size + 1 = d + 2 := ⟨Tryz.prog.types.size - 1, by have : 1 ≤ Tryz.prog.types.size := of_decide_eq_true (by kernel_rfl); omega⟩
      rw [hd] at h
      have k1 : Tryz.prog.cellsOf 9 = 1 := by kernel_rfl
      have k2 : Tryz.prog.cellsOf 3 = 1 := by kernel_rfl
      rw [Program.keyLits.eq_def] at h
      cases hx : Tryz.prog.keyLits (d + 1) 9 [c0] with
      | none => simp [Tryz.underlying137, Tryz.cellsK, k1, k2, hx] at h
      | some x =>
        cases hy : Tryz.prog.keyLits (d + 1) 3 [c1] with
        | none => simp [Tryz.underlying137, Tryz.cellsK, k1, k2, hx, hy] at h
        | some y =>
          simp [Tryz.underlying137, Tryz.cellsK, k1, k2, hx, hy] at h
          obtain ⟨s, rfl, rfl, hs⟩ : ∃ s : List UInt8, c0 = .string ⟨s.toArray⟩ ∧ x = [.string s] ∧ s.length ≤ maxLen := by
            cases c0 <;> simp [Program.keyLits, Tryz.underlying9] at hx
            rename_i b
            obtain ⟨hb, rfl⟩ := hx
            exact ⟨b.data.toList, by cases b; simp, rfl, hb⟩
          obtain ⟨k, rfl, rfl, hk⟩ : ∃ k : Int, c1 = .int .i64 k ∧ y = [.int .i64 k] ∧ (Lit.int .i64 k).wf = true := by
            cases c1 <;> simp [Program.keyLits, Tryz.underlying3] at hy
            obtain ⟨⟨rfl, hw⟩, rfl⟩ := hy
            exact ⟨_, rfl, rfl, hw⟩
          exact ⟨s, k, rfl, h.symm, hs, hk⟩
    | _ => simp [Value.formed, Tryz.underlying137] at hfm
  · cases h
theorem kK_inj {s s' : List UInt8} {k k' : Int} (h : okK s k) (h' : okK s' k') (e : kK s k = kK s' k') : s = s' ∧ k = k' := by
  have h1 := keyK h
  rw [e] at h1
  have := Tryz.keyedK.inj h1 (keyK h')
  simp only [vK, Value.agg.injEq] at this
  have := congrArg Array.toList this
  simp at this
  exact this

/-- .. without one sector. -/
def noK (L : List UInt8 → Int → Bool) (s : List UInt8) (k : Int) : List UInt8 → Int → Bool := fun y j => L y j && !(y == s && j == k)

/-- block m is a map of sectors: which of them it has. -/
def LM (w : World) (m n : Nat) (L : List UInt8 → Int → Bool) : Prop :=
  ∃ D : Dt, w.ownsMap Tryz.prog 137 (plainElem Tryz.prog 4) m n D ∧ ∀ s k, okK s k → has D (kK s k) = L s k
def LR (w : World) (m r n : Nat) (L left : List UInt8 → Int → Bool) (cnt : Nat) : Prop :=
  ∃ (D : Dt) (lf : Lit → Bool), w.ranges Tryz.prog 137 (plainElem Tryz.prog 4) m r n D lf cnt ∧ (∀ s k, okK s k → has D (kK s k) = L s k) ∧ ∀ s k, okK s k → lf (kK s k) = left s k
section
variable {w w' : World} {m n r cnt : Nat} {L left : List UInt8 → Int → Bool}
theorem LM.lt (h : LM w m n L) : m < w.heap.size := by obtain ⟨D, h, _⟩ := h; exact h.lt
theorem LM.gr (h : LM w m n L) {q : Option Nat} (hg : w.grownBy w' q) (hq : q ≠ some m) : LM w' m n L := by
  obtain ⟨D, h, h2⟩ := h
  exact ⟨D, h.kept hg (fun e => hq e.symm), h2⟩
theorem LM.mono (h : LM w m n L) {n' : Nat} (hn : n ≤ n') : LM w m n' L := by
  obtain ⟨D, h, h2⟩ := h
  exact ⟨D, h.mono hn, h2⟩
theorem LM.made (w : World) : LM (w.alloc (.map #[] 0)) w.heap.size 0 (fun _ _ => false) := ⟨_, World.ownsMap_made w _ _ _, fun _ _ _ => rfl⟩
theorem LM.isMap {D : Dt} (h : w.ownsMap Tryz.prog 137 (plainElem Tryz.prog 4) m n D) : IsMap D := by
  obtain ⟨es, e, _⟩ := h.entries Tryz.keyedK; exact ⟨es, e⟩
theorem LR.lm (h : LR w m r n L left cnt) : LM w m n L := by
  obtain ⟨D, lf, h, h2, _⟩ := h
  exact ⟨D, h.owns, h2⟩
theorem LR.gr (h : LR w m r n L left cnt) {q : Option Nat} (hg : w.grownBy w' q) (hq : q ≠ some m) (hr : q ≠ some r) : LR w' m r n L left cnt := by
  obtain ⟨D, lf, h, h2⟩ := h
  exact ⟨D, lf, h.kept hg (fun e => hq e.symm) (fun e => hr e.symm), h2⟩
theorem LR.left_eq (h : LR w m r n L left cnt) : w.rangeLeft m r = cnt := by obtain ⟨D, lf, h, _⟩ := h; exact h.left_eq
theorem LR.lt (h : LR w m r n L left cnt) : r < w.heap.size ∧ r ≠ m := by obtain ⟨D, lf, h, _⟩ := h; exact ⟨h.lt, h.ne⟩
/-- m[key{s, k}] = true. -/
theorem wp_lm_put {ops : Array Oper} {rest : List Oper} {o : Oper} {a : Act} {Q : Exit → Act → World → Prop} (hg : o.guard = none) (mm x v : Operand) (hop : o.op = .mapUpdate 72 mm x v)
    (h : LM w m n L) (hm : a.eval mm = .map (some m)) (hn : n < maxLen) {s : List UInt8} {k : Int} (hk : okK s k) (hx : a.eval x = .agg #[.string ⟨s.toArray⟩, .int .i64 k]) (hv : a.eval v = .bool true)
    (hK : ∀ w', LM w' m (n + 1) (fun y j => (y == s && j == k) || L y j) → w.grownBy w' (some m) → wpList Tryz.prog ops Q rest (a.put o.dst undef) w') : wpList Tryz.prog ops Q (o :: rest) a w := by
  obtain ⟨D, h, h0⟩ := h
  refine wpList_mapUpdate_own w hg mm x v _ hop 137 4 Tryz.keyedK Tryz.underlying72 _ m n D hm h hn _ _ (kK s k) hx hv (keyK hk) (.lit (.bool true)) [] (plainElem_bool Tryz.underlying4 true) fun w' h' g' => hK w' ⟨_, h', fun y j hy => ?_⟩ g'
  by_cases e : y = s ∧ j = k
  · obtain ⟨rfl, rfl⟩ := e
    rw [has_put_same (LM.isMap h) (k := kK y j) trivial]
    simp
  · rw [has_put_other (fun e2 => e (kK_inj hy hk e2)), h0 y j hy]
    have : (y == s && j == k) = false := by
      rw [Bool.eq_false_iff]
      intro h
      simp only [Bool.and_eq_true, beq_iff_eq] at h
      exact e h
    show _ = (y == s && j == k || L y j)
    rw [this]; rfl
/-- range m. -/
theorem wp_lm_range {ops : Array Oper} {rest : List Oper} {o : Oper} {a : Act} {Q : Exit → Act → World → Prop} (hg : o.guard = none) (mm : Operand) (hop : o.op = .range 72 mm)
    (h : LM w m n L) (hm : a.eval mm = .map (some m))
    (hK : ∀ w' cnt, LR w' m w.heap.size n L L cnt → w.grownBy w' none → w'.heap.size = w.heap.size + 1 → wpList Tryz.prog ops Q rest (a.put o.dst (.pointer (some ⟨w.heap.size, 0, none⟩))) w') :
    wpList Tryz.prog ops Q (o :: rest) a w := by
  obtain ⟨D, h, h0⟩ := h
  exact wpList_range_own w hg mm _ hop 137 4 Tryz.keyedK Tryz.underlying72 _ m n D hm h fun w' r1 r2 r3 => hK w' _ ⟨D, _, r1, h0, h0⟩ r2 r3
/-- the step. -/
theorem wp_lm_next {ops : Array Oper} {rest : List Oper} {o : Oper} {a : Act} {Q : Exit → Act → World → Prop} (hg : o.guard = none) (it : Operand) (hop : o.op = .next it false)
    (h : LR w m r n L left cnt) (hit : a.eval it = .pointer (some ⟨r, 0, none⟩))
    (hDone : cnt = 0 → (∀ s k, okK s k → left s k = false) → wpList Tryz.prog ops Q rest (a.put o.dst (.tuple #[.bool false])) w)
    (hMore : ∀ (s : List UInt8) (k : Int) (w' : World) (cnt' : Nat), okK s k → left s k = true → LR w' m r n L (noK left s k) cnt' → cnt' < cnt → w.grownBy w' (some r) → w'.heap.size = w.heap.size →
      (Instr.entry (.pointer (some ⟨r, 0, none⟩))).run Tryz.prog w' = .ok (.tuple #[.agg #[.string ⟨s.toArray⟩, .int .i64 k], .bool true]) w' ∨ (Instr.entry (.pointer (some ⟨r, 0, none⟩))).run Tryz.prog w' = .ok (.tuple #[.agg #[.string ⟨s.toArray⟩, .int .i64 k], .bool false]) w' →
      ∀ v, wpList Tryz.prog ops Q rest (a.put o.dst (.tuple #[.bool true, .agg #[.string ⟨s.toArray⟩, .int .i64 k], v])) w') :
    wpList Tryz.prog ops Q (o :: rest) a w := by
  obtain ⟨D, lf, h, h0, h1⟩ := h
  refine wpList_plain hg fun K' hK' => ?_
  unfold Oper.wp
  rcases h.next Tryz.keyedK o.type with ⟨hc, hl, hrun⟩ | ⟨key, v, kl, y, w', cnt', hkey, hlk, hv, hat, hrun, hrg, hlt, hgr, hsz, hen⟩
  · simp [execOp, hop, hit, hrun, Result.andThen]
    exact hK' _ _ (hDone hc fun s k hk => by rw [← h1 s k hk]; exact hl _)
  · obtain ⟨s, k, rfl, rfl, hs⟩ := keyK_inv hkey
    have hb : ∃ b, v = .bool b := by
      unfold plainElem at hv
      rw [Tryz.underlying4] at hv
      cases v <;> simp at hv
      exact ⟨_, rfl⟩
    obtain ⟨b, rfl⟩ := hb
    simp [execOp, hop, hit, hrun, Result.andThen]
    refine hK' _ _ (hMore s k w' cnt' hs (by rw [← h1 s k hs]; exact hlk) ⟨D, _, hrg, h0, fun y j hy => ?_⟩ hlt hgr hsz (by cases b; exact .inr hen; exact .inl hen) _)
    show (lf (kK y j) && !(kK y j).sameKey (kK s k)) = (left y j && !(y == s && j == k))
    rw [← h1 y j hy]
    congr 1
    by_cases e : y = s ∧ j = k
    · obtain ⟨rfl, rfl⟩ := e
      rw [WideAt.sameKey_self (a := kK y j) trivial]
      simp
    · rw [sameKey_ne (fun e2 => e (kK_inj hy hs e2))]
      have : (y == s && j == k) = false := by
        rw [Bool.eq_false_iff]
        intro h
        simp only [Bool.and_eq_true, beq_iff_eq] at h
        exact e h
      rw [this]
/-- delete(m, key{s, k}) in a round. -/
theorem run_lm_del (h : LR w m r n L left cnt) {s : List UInt8} {k : Int} (hk : okK s k) (ty : TypeId) :
    ∃ w' cnt', (Builtin.delete_ #[72, 137] ty #[.map (some m), .agg #[.string ⟨s.toArray⟩, .int .i64 k]]).run Tryz.prog w = .ok (.tuple #[]) w' ∧
      LR w' m r n (noK L s k) (noK left s k) cnt' ∧ cnt' ≤ cnt ∧ w.grownBy w' (some m) ∧ w'.heap.size = w.heap.size := by
  obtain ⟨D, lf, h, h0, h1⟩ := h
  obtain ⟨w', cnt', hrun, r1, r2, r3⟩ := h.drop Tryz.keyedK Tryz.underlying72 (keyK hk) ty
  have hne : ∀ {y j}, okK y j → ¬ (y = s ∧ j = k) → kK y j ≠ kK s k := fun hy e e2 => e (kK_inj hy hk e2)
  have hf : ∀ {y : List UInt8} {j : Int}, ¬ (y = s ∧ j = k) → (y == s && j == k) = false := fun {y j} e => by
    rw [Bool.eq_false_iff]
    intro h
    simp only [Bool.and_eq_true, beq_iff_eq] at h
    exact e h
  refine ⟨w', cnt', hrun, ⟨_, _, r1, fun y j hy => ?_, fun y j hy => ?_⟩, r2, r3.grown, ?_⟩
  · by_cases e : y = s ∧ j = k
    · obtain ⟨rfl, rfl⟩ := e
      rw [has_del_same]; simp [noK]
    · show _ = (L y j && !(y == s && j == k))
      rw [has_del_other (hne hy e), h0 y j hy, hf e]; simp
  · by_cases e : y = s ∧ j = k
    · obtain ⟨rfl, rfl⟩ := e
      simp only [WideAt.sameKey_self (a := kK y j) trivial]; simp [noK]
    · simp only [noK, sameKey_ne (hne hy e), hf e, h1 y j hy]
  · obtain ⟨es, cl, es', cl', _, rfl⟩ := r3
    simp [Go.ChangeMaps.setBlock]
theorem step_lm_del {o : Oper} {a : Act} {K : Act → World → Prop} {Q : Exit → Act → World → Prop} (mm x : Operand) (ho : o.op = .call { callee := .builtin .delete, args := #[mm, x], argTypes := #[72, 137] })
    (h : LR w m r n L left cnt) (hm : a.eval mm = .map (some m)) {s : List UInt8} {k : Int} (hk : okK s k) (hx : a.eval x = .agg #[.string ⟨s.toArray⟩, .int .i64 k])
    (hK : ∀ w' cnt', LR w' m r n (noK L s k) (noK left s k) cnt' → cnt' ≤ cnt → w.grownBy w' (some m) → w'.heap.size = w.heap.size → K (a.put o.dst (.tuple #[])) w') : o.wp Tryz.prog a w K Q := by
  obtain ⟨w', cnt', hrun, h1, h2, h3, h4⟩ := run_lm_del h hk o.type
  unfold Oper.wp
  simp [execOp, ho, resolve, invoke, builtin, hm, hx, hrun, Result.andThen]
  exact hK w' cnt' h1 h2 h3 h4
end
end Go.Proofs.YtipankjajdpiiaaGreat
