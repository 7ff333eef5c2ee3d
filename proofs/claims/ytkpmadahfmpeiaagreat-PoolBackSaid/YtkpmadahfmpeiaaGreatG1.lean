/-
  A pool over a disk with room holds files of pages: plain. What a frame that is written back, emptied, filled or written does to them.
-/
import Derived.Test.YtkpmadahfmpeiaaGreatPo5
import Derived.Test.YtkpmadahfmpeiaaGreatPgs
namespace Go.Proofs.YtkpmadahfmpeiaaGreat
set_option maxRecDepth 100000

/-- a file, and its pages. -/
structure Fz where
  name : List UInt8
  pages : List (List UInt8)
/-- .. and how many of them the disk has. -/
structure Ge where
  fi : Fi
  pages : List (List UInt8)
  m : Nat
def Ge.fz (x : Ge) : Fz := ⟨x.fi.name, x.pages⟩
def dirtyAt (fr : List Fr) (n : List UInt8) (j : Nat) : Prop := ∃ (i : Nat) (f : Fr), fr[i]? = some f ∧ f.full = true ∧ f.dirty = true ∧ f.n = n ∧ f.k = (j : Int)
structure GeOk (fr : List Fr) (x : Ge) : Prop where
  right : rightB x.fi.name = true
  le : x.m ≤ x.pages.length
  len : x.fi.now.length = 256 * x.m
  at_ : ∀ j b, j < x.m → x.pages[j]? = some b → ¬ dirtyAt fr x.fi.name j → pgA x.fi.now j = pagB (crcS x.fi.name) j b
  new : ∀ j, x.m ≤ j → j < x.pages.length → dirtyAt fr x.fi.name j
  small : ∀ b ∈ x.pages, b.length ≤ 240
def sumP (G : List Ge) : Nat := (G.map fun x => x.pages.length).sum
structure AbG (q N : Nat) (fr : List Fr) (S : Dk) (G : List Ge) : Prop where
  idle : Idle S
  quota : S.quota = q
  fs : S.fs = G.map Ge.fi
  nodup : (G.map fun x => x.fi.name).Nodup
  ok : ∀ x ∈ G, GeOk fr x
  total : sumP G ≤ N ∧ (N ≤ 10000 ∧ 4 * N + 4 ≤ q)
  held : ∀ (i : Nat) (f : Fr), fr[i]? = some f → f.full = true → ∃ x ∈ G, x.fi.name = f.n ∧ 0 ≤ f.k ∧ x.pages[f.k.toNat]? = some f.b
  low : ∀ (i : Nat) (f : Fr), fr[i]? = some f → f.full = false → f.dirty = false
  uniq : ∀ (i j : Nat) (f g : Fr), fr[i]? = some f → fr[j]? = some g → f.full = true → g.full = true → f.n = g.n → f.k = g.k → i = j
section
variable {q N : Nat} {fr : List Fr} {S : Dk} {G : List Ge}
theorem ge_uniq (h : (G.map fun x => x.fi.name).Nodup) {x y : Ge} (hx : x ∈ G) (hy : y ∈ G) (e : x.fi.name = y.fi.name) : x = y := by
  induction G with
  | nil => cases hx
  | cons a l ih =>
    rw [List.map_cons, List.nodup_cons] at h
    rcases List.mem_cons.1 hx with e1 | hx
    · rcases List.mem_cons.1 hy with e2 | hy
      · rw [e1, e2]
      · exact absurd (List.mem_map.2 ⟨y, hy, by rw [← e, e1]⟩) h.1
    · rcases List.mem_cons.1 hy with e2 | hy
      · exact absurd (List.mem_map.2 ⟨x, hx, by rw [e, e2]⟩) h.1
      · exact ih h.2 hx hy
theorem AbG.find (h : AbG q N fr S G) {x : Ge} (hx : x ∈ G) : S.find x.fi.name = some x.fi := by
  unfold Dk.find
  rw [h.fs]
  have hn := h.nodup
  clear h
  induction G with
  | nil => cases hx
  | cons a l ih =>
    rw [List.map_cons, List.nodup_cons] at hn
    rw [List.map_cons, List.find?_cons]
    rcases List.mem_cons.1 hx with e | hx
    · rw [e]; simp
    · have : a.fi.name ≠ x.fi.name := fun e => hn.1 (List.mem_map.2 ⟨x, hx, e.symm⟩)
      rw [show (a.fi.name == x.fi.name) = false from by simpa using this]
      exact ih hx hn.2
theorem AbG.find_no (h : AbG q N fr S G) {n : List UInt8} (hn : ∀ x ∈ G, x.fi.name ≠ n) : S.find n = none := by
  unfold Dk.find
  rw [h.fs, List.find?_eq_none]
  intro f hf
  obtain ⟨x, hx, rfl⟩ := List.mem_map.1 hf
  simpa using hn x hx
theorem AbG.size (h : AbG q N fr S G) {x : Ge} (hx : x ∈ G) : S.size x.fi.name = (256 * x.m, 0) := by
  rw [size_idle h.idle (h.ok x hx).right (h.find hx)]
  exact congrArg (·, 0) (h.ok x hx).len
theorem AbG.pgs (h : AbG q N fr S G) {x : Ge} (hx : x ∈ G) : S.pgs x.fi.name = (x.m, 0) := by
  unfold Dk.pgs
  rw [h.size hx, if_neg (by simp), if_neg (by simp)]
  show (256 * x.m / 256, 0) = _
  rw [Nat.mul_div_cancel_left _ (by omega)]
theorem sum_le {α : Type} (f g : α → Nat) (l : List α) (h : ∀ x ∈ l, f x ≤ g x) : (l.map f).sum ≤ (l.map g).sum := by
  induction l with
  | nil => simp
  | cons a l ih =>
    simp only [List.map_cons, List.sum_cons]
    have := h a (by simp)
    have := ih fun x hx => h x (by simp [hx])
    omega
theorem sum_mul {α : Type} (f : α → Nat) (c : Nat) (l : List α) : (l.map fun x => c * f x).sum = c * (l.map f).sum := by
  induction l with
  | nil => simp
  | cons a l ih => simp only [List.map_cons, List.sum_cons]; rw [ih, Nat.mul_add]
theorem mem_sum {α : Type} (f : α → Nat) {l : List α} {x : α} (hx : x ∈ l) : f x ≤ (l.map f).sum := by
  induction l with
  | nil => cases hx
  | cons a l ih =>
    simp only [List.map_cons, List.sum_cons]
    rcases List.mem_cons.1 hx with e | hx
    · rw [e]; omega
    · have := ih hx; omega
theorem AbG.used (h : AbG q N fr S G) : S.used ≤ 4 * N := by
  unfold Dk.used
  rw [h.fs, List.map_map]
  have h1 : (G.map ((fun f => sectors f.now.length) ∘ Ge.fi)).sum ≤ (G.map fun x => 4 * x.pages.length).sum := by
    refine sum_le _ _ _ fun x hx => ?_
    show sectors x.fi.now.length ≤ _
    rw [(h.ok x hx).len]
    have := (h.ok x hx).le
    unfold sectors
    omega
  rw [sum_mul] at h1
  have := h.total.1
  unfold sumP at this
  omega
theorem AbG.pages_le (h : AbG q N fr S G) {x : Ge} (hx : x ∈ G) : x.pages.length ≤ N := Nat.le_trans (mem_sum (fun x : Ge => x.pages.length) hx) h.total.1
theorem crcS_lt (n : List UInt8) : crcS n < 2 ^ 32 := by
  have : crcS n < 4294967296 := crcE_lt _ _
  omega
/-- a page is laid on the disk. -/
theorem AbG.pwrite (h : AbG q N fr S G) {x : Ge} (hx : x ∈ G) {k : Nat} (hk : k ≤ x.m) {b : List UInt8} (hb : b.length ≤ 240) :
    S.pwrite x.fi.name k b = (S.wrote x.fi.name (k * 256) (pagB (crcS x.fi.name) k b), 0) := by
  have hl := pagB_len (tag := crcS x.fi.name) (k := k) hb
  have ho := h.ok x hx
  have hm := ho.le
  have hp := h.pages_le hx
  have hN := h.total.2
  have hu := h.used
  have hw : S.write x.fi.name ((k : Int) * 256) (pagB (crcS x.fi.name) k b) = (S.wrote x.fi.name (k * 256) (pagB (crcS x.fi.name) k b), 0) := by
    have := write_idle (S := S) (f := x.fi) (n := x.fi.name) (p := k * 256) (b := pagB (crcS x.fi.name) k b) h.idle ho.right (h.find hx) (by rw [ho.len]; omega) (by rw [hl]; omega) (by
      intro hy
      have hx2 := hy.2
      unfold moreS at hx2
      rw [h.quota, hl, ho.len] at hx2
      unfold sectors at hx2
      omega)
    rw [show ((k * 256 : Nat) : Int) = (k : Int) * 256 from by push_cast; rfl] at this
    exact this
  unfold Dk.pwrite
  rw [h.size hx, if_neg (by omega), if_neg (by omega), if_neg (by simp), if_neg (by simp; omega), Int.toNat_natCast, hw]
theorem AbG.pread (h : AbG q N fr S G) {x : Ge} (hx : x ∈ G) {k : Nat} (hk : k < x.m) {b : List UInt8} (hb : x.pages[k]? = some b) (hd : ¬ dirtyAt fr x.fi.name k) : S.pread x.fi.name k = (b, 0) := by
  have ho := h.ok x hx
  have hm := ho.le
  have hp := h.pages_le hx
  have hN := h.total.2
  rw [pread_of (h.size hx) hk]
  have e : (S.read x.fi.name ((k : Int) * 256) 256).1 = pgA x.fi.now k := by
    have := read_idle (S := S) (n := x.fi.name) (p := k * 256) (k := 256) h.idle ho.right (h.find hx)
    rw [show ((k * 256 : Nat) : Int) = (k : Int) * 256 from by push_cast; rfl] at this
    rw [show ((256 : Nat) : Int) = 256 from rfl] at this
    rw [this]
    unfold pgA
    rw [Nat.mul_comm]
  rw [e, ho.at_ k b hk hb hd, pagO_made (ho.small b (List.mem_of_getElem? hb)) (crcS_lt _) (by omega), if_pos rfl]
/-- which frames count. -/
def core (f : Fr) : Bool × List UInt8 × Int × List UInt8 × Bool := (f.full, f.n, f.k, f.b, f.dirty)
theorem core_eq {f g : Fr} (h : core f = core g) : f.full = g.full ∧ f.n = g.n ∧ f.k = g.k ∧ f.b = g.b ∧ f.dirty = g.dirty := by
  simp only [core, Prod.mk.injEq] at h
  exact h
theorem core_at {fr fr' : List Fr} (h : fr'.map core = fr.map core) {i : Nat} {f : Fr} (hf : fr'[i]? = some f) : ∃ g, fr[i]? = some g ∧ core f = core g := by
  have := congrArg (·[i]?) h
  simp only [List.getElem?_map, hf, Option.map_some] at this
  cases hg : fr[i]? with
  | none => rw [hg] at this; cases this
  | some g => rw [hg] at this; exact ⟨g, rfl, Option.some.inj this⟩
theorem dirtyAt_core {fr fr' : List Fr} (h : fr'.map core = fr.map core) {n : List UInt8} {j : Nat} (hd : dirtyAt fr' n j) : dirtyAt fr n j := by
  obtain ⟨i, f, h1, h2, h3, h4, h5⟩ := hd
  obtain ⟨g, hg, e⟩ := core_at h h1
  obtain ⟨e1, e2, e3, -, e5⟩ := core_eq e
  exact ⟨i, g, hg, by rw [← e1]; exact h2, by rw [← e5]; exact h3, by rw [← e2]; exact h4, by rw [← e3]; exact h5⟩
theorem GeOk.dirt {fr fr' : List Fr} {x : Ge} (h : GeOk fr x) (hd : ∀ j, dirtyAt fr' x.fi.name j ↔ dirtyAt fr x.fi.name j) : GeOk fr' x :=
  ⟨h.right, h.le, h.len, fun j b h1 h2 h3 => h.at_ j b h1 h2 fun h4 => h3 ((hd j).2 h4), fun j h1 h2 => (hd j).2 (h.new j h1 h2), h.small⟩
theorem AbG.core (h : AbG q N fr S G) {fr' : List Fr} (e : fr'.map core = fr.map core) : AbG q N fr' S G :=
  ⟨h.idle, h.quota, h.fs, h.nodup, fun x hx => (h.ok x hx).dirt fun j => ⟨dirtyAt_core e, dirtyAt_core e.symm⟩, h.total,
    fun i f hf h1 => by
      obtain ⟨g, hg, e⟩ := core_at e hf
      obtain ⟨e1, e2, e3, e4, -⟩ := core_eq e
      obtain ⟨x, hx, k1, k2, k3⟩ := h.held i g hg (by rw [← e1]; exact h1)
      exact ⟨x, hx, by rw [e2]; exact k1, by rw [e3]; exact k2, by rw [e3, e4]; exact k3⟩,
    fun i f hf h1 => by
      obtain ⟨g, hg, e⟩ := core_at e hf
      obtain ⟨e1, -, -, -, e5⟩ := core_eq e
      rw [e5]; exact h.low i g hg (by rw [← e1]; exact h1),
    fun i j f g hf hg h1 h2 h3 h4 => by
      obtain ⟨f', hf', e1⟩ := core_at e hf
      obtain ⟨g', hg', e2⟩ := core_at e hg
      obtain ⟨a1, a2, a3, -, -⟩ := core_eq e1
      obtain ⟨b1, b2, b3, -, -⟩ := core_eq e2
      exact h.uniq i j f' g' hf' hg' (by rw [← a1]; exact h1) (by rw [← b1]; exact h2) (by rw [← a2, ← b2]; exact h3) (by rw [← a3, ← b3]; exact h4)⟩
theorem dirtyAt_set {i : Nat} {f f' : Fr} (hf : fr[i]? = some f) (n : List UInt8) (j : Nat) :
    dirtyAt (fr.set i f') n j ↔ (f'.full = true ∧ f'.dirty = true ∧ f'.n = n ∧ f'.k = (j : Int)) ∨ ∃ (i2 : Nat) (g : Fr), i2 ≠ i ∧ fr[i2]? = some g ∧ g.full = true ∧ g.dirty = true ∧ g.n = n ∧ g.k = (j : Int) := by
  have hi : i < fr.length := (List.getElem?_eq_some_iff.1 hf).1
  constructor
  · rintro ⟨i2, g, h1, h2⟩
    by_cases e : i = i2
    · subst e
      rw [List.getElem?_set_self hi] at h1
      cases h1
      exact .inl h2
    · rw [List.getElem?_set_ne e] at h1
      exact .inr ⟨i2, g, fun e2 => e e2.symm, h1, h2⟩
  · rintro (h | ⟨i2, g, h1, h2, h3⟩)
    · exact ⟨i, f', List.getElem?_set_self hi, h⟩
    · exact ⟨i2, g, by rw [List.getElem?_set_ne (fun e => h1 e.symm)]; exact h2, h3⟩
/-- dirty, but at one frame. -/
theorem dirtyAt_but {i : Nat} {f : Fr} (hf : fr[i]? = some f) (n : List UInt8) (j : Nat) :
    dirtyAt fr n j ↔ (f.full = true ∧ f.dirty = true ∧ f.n = n ∧ f.k = (j : Int)) ∨ ∃ (i2 : Nat) (g : Fr), i2 ≠ i ∧ fr[i2]? = some g ∧ g.full = true ∧ g.dirty = true ∧ g.n = n ∧ g.k = (j : Int) := by
  have := dirtyAt_set (f' := f) hf n j
  rwa [show fr.set i f = fr from by
    apply List.ext_getElem?
    intro q
    by_cases e : i = q
    · subst e; rw [List.getElem?_set_self (List.getElem?_eq_some_iff.1 hf).1, hf]
    · rw [List.getElem?_set_ne e]] at this
/-- the name of a file that is written stays. -/
def Ge.up (n : List UInt8) (now : List UInt8 → List UInt8) (m : Nat → Nat) (x : Ge) : Ge := if x.fi.name = n then { x with fi := { x.fi with now := now x.fi.now }, m := m x.m } else x
theorem up_name (n : List UInt8) (now : List UInt8 → List UInt8) (m : Nat → Nat) (x : Ge) : (x.up n now m).fi.name = x.fi.name := by unfold Ge.up; split <;> rfl
theorem up_pages (n : List UInt8) (now : List UInt8 → List UInt8) (m : Nat → Nat) (x : Ge) : (x.up n now m).pages = x.pages := by unfold Ge.up; split <;> rfl
theorem up_fz (n : List UInt8) (now : List UInt8 → List UInt8) (m : Nat → Nat) : (G.map fun x => x.up n now m).map Ge.fz = G.map Ge.fz := by
  rw [List.map_map]
  refine List.map_congr_left fun x _ => ?_
  show (⟨(x.up n now m).fi.name, (x.up n now m).pages⟩ : Fz) = ⟨x.fi.name, x.pages⟩
  rw [up_name, up_pages]
/-- a dirty frame is written to the disk, and clean. -/
theorem AbG.back1 (h : AbG q N fr S G) {i : Nat} {f : Fr} (hf : fr[i]? = some f) (h1 : f.full = true) {x : Ge} (hx : x ∈ G) (hn : x.fi.name = f.n) (hk : f.k ≤ x.m) :
    (S.pwrite f.n f.k f.b).2 = 0 ∧ AbG q N (fr.set i f.clean) (S.pwrite f.n f.k f.b).1 (G.map fun y => y.up f.n (fun c => overZ c (f.k.toNat * 256) (pagB (crcS f.n) f.k.toNat f.b)) fun m => max m (f.k.toNat + 1)) := by
  obtain ⟨x', hx', e1, hk0, hb⟩ := h.held i f hf h1
  obtain rfl := ge_uniq h.nodup hx hx' (hn.trans e1.symm)
  obtain ⟨k, hkk⟩ : ∃ k : Nat, f.k = (k : Int) := ⟨f.k.toNat, by omega⟩
  have ho := h.ok x hx
  rw [hkk, Int.toNat_natCast] at hb
  have hbl := ho.small _ (List.mem_of_getElem? hb)
  have hkl : k < x.pages.length := (List.getElem?_eq_some_iff.1 hb).1
  have hkm : k ≤ x.m := by omega
  have hN := h.total.2
  have hpl := h.pages_le hx
  have hw := h.pwrite hx hkm hbl
  rw [hkk, Int.toNat_natCast]
  rw [← hn, hw]
  have hP := pagB_len (tag := crcS x.fi.name) (k := k) hbl
  refine ⟨rfl, ⟨h.idle.1, h.idle.2⟩, h.quota, ?_, ?_, fun y hy => ?_, ?_, fun j g hg hg1 => ?_, fun j g hg hg1 => ?_, fun a c g g' ha hc hg hg' en ek => ?_⟩
  · show setF S.fs x.fi.name _ = _
    rw [h.fs]
    unfold setF
    rw [List.map_map, List.map_map]
    refine List.map_congr_left fun y _ => ?_
    show (if y.fi.name = x.fi.name then _ else y.fi) = (y.up _ _ _).fi
    unfold Ge.up
    split <;> rfl
  · rw [List.map_map]
    have : ((fun y : Ge => y.fi.name) ∘ fun y => y.up x.fi.name (fun c => overZ c (k * 256) (pagB (crcS x.fi.name) k f.b)) fun m => max m (k + 1)) = fun y : Ge => y.fi.name := by
      funext y; exact up_name _ _ _ y
    rw [this]; exact h.nodup
  · obtain ⟨z, hz, rfl⟩ := List.mem_map.1 hy
    have hoz := h.ok z hz
    by_cases e : z.fi.name = x.fi.name
    · obtain rfl := ge_uniq h.nodup hz hx e
      have eu : z.up z.fi.name (fun c => overZ c (k * 256) (pagB (crcS z.fi.name) k f.b)) (fun m => max m (k + 1)) = { z with fi := { z.fi with now := overZ z.fi.now (k * 256) (pagB (crcS z.fi.name) k f.b) }, m := max z.m (k + 1) } := if_pos rfl
      rw [eu]
      have hpg : ∀ j, j < max z.m (k + 1) → pgA (overZ z.fi.now (k * 256) (pagB (crcS z.fi.name) k f.b)) j = if j = k then pagB (crcS z.fi.name) k f.b else pgA z.fi.now j := fun j hj => by
        have := pgA_over (c := z.fi.now) (p := pagB (crcS z.fi.name) k f.b) (n := z.m) (k := k) (j := j) hoz.len hP hkm hj
        rwa [Nat.mul_comm 256 k] at this
      refine ⟨hoz.right, ?_, ?_, fun j b hj hb2 hnd => ?_, fun j hj1 hj2 => ?_, hoz.small⟩
      · show max z.m (k + 1) ≤ z.pages.length
        have := hoz.le; omega
      · show (overZ z.fi.now (k * 256) (pagB (crcS z.fi.name) k f.b)).length = 256 * max z.m (k + 1)
        rw [overZ_len8 (by rw [hoz.len]; omega), hP, hoz.len]; omega
      · show pgA (overZ z.fi.now (k * 256) (pagB (crcS z.fi.name) k f.b)) j = _
        rw [hpg j hj]
        by_cases ej : j = k
        · subst ej
          rw [if_pos rfl]
          rw [hb] at hb2; cases hb2; rfl
        · rw [if_neg ej]
          have hj' : j < max z.m (k + 1) := hj
          refine hoz.at_ j b (by omega) hb2 fun hd => hnd ?_
          rw [dirtyAt_set hf]
          rcases (dirtyAt_but hf _ _).1 hd with ⟨_, _, _, e4⟩ | h4
          · exact absurd e4 (by omega)
          · exact .inr h4
      · have hj1' : max z.m (k + 1) ≤ j := hj1
        have hd := hoz.new j (by omega) hj2
        show dirtyAt _ z.fi.name j
        rw [dirtyAt_set hf]
        rcases (dirtyAt_but hf _ _).1 hd with ⟨_, _, _, e4⟩ | h4
        · exact absurd e4 (by omega)
        · exact .inr h4
    · have eu : z.up x.fi.name (fun c => overZ c (k * 256) (pagB (crcS x.fi.name) k f.b)) (fun m => max m (k + 1)) = z := if_neg e
      rw [eu]
      refine hoz.dirt fun j => ?_
      rw [dirtyAt_set hf, dirtyAt_but hf]
      constructor
      · rintro (⟨_, h4, _⟩ | h4)
        · cases h4
        · exact .inr h4
      · rintro (⟨_, _, h5, _⟩ | h4)
        · exact absurd (h5.symm.trans hn.symm) e
        · exact .inr h4
  · refine ⟨?_, hN⟩
    have : sumP (G.map fun y => y.up x.fi.name (fun c => overZ c (k * 256) (pagB (crcS x.fi.name) k f.b)) fun m => max m (k + 1)) = sumP G := by
      unfold sumP
      rw [List.map_map]
      congr 1
      refine List.map_congr_left fun y _ => ?_
      show (y.up _ _ _).pages.length = _
      rw [up_pages]
    rw [this]; exact h.total.1
  · have hold : ∃ g0, fr[j]? = some g0 ∧ g0.full = true ∧ g0.n = g.n ∧ g0.k = g.k ∧ g0.b = g.b := by
      by_cases e : i = j
      · subst e
        rw [List.getElem?_set_self (List.getElem?_eq_some_iff.1 hf).1] at hg
        cases hg
        exact ⟨f, hf, h1, rfl, rfl, rfl⟩
      · rw [List.getElem?_set_ne e] at hg
        exact ⟨g, hg, hg1, rfl, rfl, rfl⟩
    obtain ⟨g0, k1, k2, k3, k4, k5⟩ := hold
    obtain ⟨y, hy, q1, q2, q3⟩ := h.held j g0 k1 k2
    refine ⟨_, List.mem_map.2 ⟨y, hy, rfl⟩, ?_, by rw [← k4]; exact q2, ?_⟩
    · rw [up_name, q1, k3]
    · rw [up_pages, ← k4, ← k5]; exact q3
  · by_cases e : i = j
    · subst e
      rw [List.getElem?_set_self (List.getElem?_eq_some_iff.1 hf).1] at hg
      cases hg
      rfl
    · rw [List.getElem?_set_ne e] at hg
      exact h.low j g hg hg1
  · have hold : ∀ {a : Nat} {g : Fr}, (fr.set i f.clean)[a]? = some g → ∃ g0, fr[a]? = some g0 ∧ g0.full = g.full ∧ g0.n = g.n ∧ g0.k = g.k := fun {a g} ha => by
      by_cases e : i = a
      · subst e
        rw [List.getElem?_set_self (List.getElem?_eq_some_iff.1 hf).1] at ha
        cases ha
        exact ⟨f, hf, rfl, rfl, rfl⟩
      · rw [List.getElem?_set_ne e] at ha
        exact ⟨g, ha, rfl, rfl, rfl⟩
    obtain ⟨g0, p1, p2, p3, p4⟩ := hold ha
    obtain ⟨g1, r1, r2, r3, r4⟩ := hold hc
    exact h.uniq a c g0 g1 p1 r1 (p2.trans hg) (r2.trans hg') (by rw [p3, r3]; exact en) (by rw [p4, r4]; exact ek)
/-- a clean frame is emptied. -/
theorem AbG.empty (h : AbG q N fr S G) {i : Nat} {f : Fr} (hf : fr[i]? = some f) (h2 : f.dirty = false) : AbG q N (fr.set i fr0) S G := by
  have hi : i < fr.length := (List.getElem?_eq_some_iff.1 hf).1
  have hold : ∀ {a : Nat} {g : Fr}, (fr.set i fr0)[a]? = some g → (g = fr0 ∧ a = i) ∨ (a ≠ i ∧ fr[a]? = some g) := fun {a g} ha => by
    by_cases e : i = a
    · subst e
      rw [List.getElem?_set_self hi] at ha
      cases ha
      exact .inl ⟨rfl, rfl⟩
    · rw [List.getElem?_set_ne e] at ha
      exact .inr ⟨fun e2 => e e2.symm, ha⟩
  refine ⟨h.idle, h.quota, h.fs, h.nodup, fun x hx => (h.ok x hx).dirt fun j => ?_, h.total, fun j g hg hg1 => ?_, fun j g hg hg1 => ?_, fun a c g g' ha hc hg hg' en ek => ?_⟩
  · rw [dirtyAt_set hf, dirtyAt_but hf]
    constructor
    · rintro (⟨h3, _⟩ | h4)
      · cases h3
      · exact .inr h4
    · rintro (⟨_, h3, _⟩ | h4)
      · rw [h2] at h3; cases h3
      · exact .inr h4
  · rcases hold hg with ⟨rfl, _⟩ | ⟨_, hg2⟩
    · cases hg1
    · exact h.held j g hg2 hg1
  · rcases hold hg with ⟨rfl, _⟩ | ⟨_, hg2⟩
    · rfl
    · exact h.low j g hg2 hg1
  · rcases hold ha with ⟨rfl, _⟩ | ⟨_, ha2⟩
    · cases hg
    · rcases hold hc with ⟨rfl, _⟩ | ⟨_, hc2⟩
      · cases hg'
      · exact h.uniq a c g g' ha2 hc2 hg hg' en ek
end
end Go.Proofs.YtkpmadahfmpeiaaGreat
