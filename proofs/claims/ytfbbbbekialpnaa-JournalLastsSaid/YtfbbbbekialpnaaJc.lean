/-
  A journal's disk where the power may go: plain, and seen from an older world.
-/
import Derived.Test.YtfbbbbekialpnaaJa
import Derived.Test.YtfbbbbekialpnaaJs
import Derived.Test.YtfbbbbekialpnaaKpd
import Derived.Test.YtfbbbbekialpnaaInt
namespace Go.Proofs.Ytfbbbbekialpnaa
open Go.RowKit
set_option maxRecDepth 100000

/-- l lasts; x was written behind it. -/
structure St (S : Dk) (l x : List Rc) (b : Nat) : Prop where
  q : S.quota = 1024
  nl : S.nl ≤ b
  fs : (S.fs = [] ∧ l = [] ∧ x = []) ∨ S.fs = [⟨jn, secs 0 (l ++ x), secs 0 l⟩]
  loose : ∀ s k, S.loose s k = (decide (0 < x.length) && (s == jn && k == (l.length : Int)))
  x1 : x.length ≤ 1
  ne : ∀ r ∈ l ++ x, r.k ≠ 0
section
variable {S S' : Dk} {l x : List Rc} {b b' : Nat} {r : Rc}
theorem St.same (h : St S l x b) (e1 : S'.fs = S.fs) (e2 : S'.loose = S.loose) (e3 : S'.nl = S.nl) (e4 : S'.quota = S.quota) : St S' l x b := ⟨e4.trans h.q, by rw [e3]; exact h.nl, by rw [e1]; exact h.fs, by rw [e2]; exact h.loose, h.x1, h.ne⟩
theorem St.mono (h : St S l x b) (hb : b ≤ b') : St S l x b' := ⟨h.q, Nat.le_trans h.nl hb, h.fs, h.loose, h.x1, h.ne⟩
theorem St.begin (h : St S l x b) : St S.begin l x b := h.same (begin_fs S) (begin_loose S).1 (begin_loose S).2.1 (begin_loose S).2.2
theorem St.new : St (newD 1024) [] [] 0 := ⟨rfl, Nat.le_refl _, .inl ⟨rfl, rfl, rfl⟩, fun _ _ => rfl, by simp, fun r hr => by simp at hr⟩
theorem St.few (h : St S l x b) : S.fs.length ≤ 1 := by
  rcases h.fs with ⟨e, _⟩ | e <;> rw [e] <;> simp
theorem find_one {f : Fi} (e : S.fs = [f]) (hn : f.name = jn) : S.find jn = some f := by unfold Dk.find; rw [e]; simp [hn]
theorem find_zero (e : S.fs = []) : S.find jn = none := by unfold Dk.find; rw [e]; rfl
theorem St.looseIn (h : St S l x b) : LooseIn S := fun s k hl => by
  rw [h.loose] at hl
  simp only [Bool.and_eq_true, decide_eq_true_eq, beq_iff_eq] at hl
  obtain ⟨h0, rfl, rfl⟩ := hl
  rcases h.fs with ⟨_, _, e⟩ | e
  · rw [e] at h0; simp at h0
  · refine ⟨_, find_one e rfl, by omega, ?_⟩
    show (64 : Int) * (l.length : Int) < ((secs 0 (l ++ x)).length : Int)
    rw [secs_len, List.length_append]; omega
theorem sync_eq {f : Fi} (hf : S.find jn = some f) : S.sync jn = if S.begin.dead = true then (S.begin, 6) else (S.begin.synced jn, 0) := by
  unfold Dk.sync
  rw [hf, jn_right]
  simp
theorem St.synced (h : St S l x b) (hf : S.fs = [⟨jn, secs 0 (l ++ x), secs 0 l⟩]) : St (S.synced jn) (l ++ x) [] b ∧ (S.synced jn).fs = [⟨jn, secs 0 (l ++ x), secs 0 (l ++ x)⟩] := by
  have e : (S.synced jn).fs = [⟨jn, secs 0 (l ++ x), secs 0 (l ++ x)⟩] := by
    show setF S.fs jn _ = _
    rw [hf, setF_one]
  refine ⟨⟨h.q, h.nl, .inr (by rw [List.append_nil]; exact e), fun s k => ?_, by simp, by rw [List.append_nil]; exact h.ne⟩, e⟩
  show (S.loose s k && !(s == jn)) = _
  rw [h.loose]
  cases (s == jn) <;> simp
theorem hits_at (n : Nat) (k : Int) : hits (64 * n) 64 k = (k == (n : Int)) := by
  unfold hits
  by_cases e : k = (n : Int)
  · rw [e, beq_self_eq_true, List.any_eq_true]
    exact ⟨0, by simp, by simp⟩
  · have : (k == (n : Int)) = false := by simpa using e
    rw [this, List.any_eq_false]
    intro i hi
    have := List.mem_range.1 hi
    simp only [beq_iff_eq]
    intro e2
    have h3 : (64 * n + i) / 64 = n := by omega
    rw [h3] at e2
    exact e e2.symm
theorem St.wrote (h : St S l [] b) (hf : S.fs = [⟨jn, secs 0 l, secs 0 l⟩]) (hr : r.k ≠ 0) : St (S.wrote jn (64 * l.length) (secB (l.length + 1) r)) l [r] (b + 64) ∧ (S.wrote jn (64 * l.length) (secB (l.length + 1) r)).fs = [⟨jn, secs 0 (l ++ [r]), secs 0 l⟩] := by
  have e1 : overZ (secs 0 l) (64 * l.length) (secB (l.length + 1) r) = secs 0 (l ++ [r]) := by
    unfold overZ
    rw [secs_snoc, List.take_of_length_le (by rw [secs_len]; omega), List.drop_of_length_le (by rw [secs_len]; omega), List.append_nil, Nat.zero_add]
  have e : (S.wrote jn (64 * l.length) (secB (l.length + 1) r)).fs = [⟨jn, secs 0 (l ++ [r]), secs 0 l⟩] := by
    show setF S.fs jn _ = _
    rw [hf, setF_one]
    simp [e1]
  refine ⟨⟨h.q, ?_, .inr e, fun s k => ?_, by simp, fun y hy => ?_⟩, e⟩
  · show S.nl + (secB (l.length + 1) r).length ≤ _
    rw [secB_len]; have := h.nl; omega
  · show ((s == jn && hits (64 * l.length) (secB (l.length + 1) r).length k) || S.loose s k) = _
    rw [secB_len, hits_at, h.loose]
    simp
  · rcases List.mem_append.1 hy with hy | hy
    · exact h.ne y (List.mem_append_left _ hy)
    · rw [List.mem_singleton.1 hy]; exact hr
theorem St.write_eq (h : St S l [] b) (hf : S.fs = [⟨jn, secs 0 l, secs 0 l⟩]) (hl : l.length < 1000) (r : Rc) :
    S.write jn ((64 * l.length : Nat) : Int) (secB (l.length + 1) r) = if S.begin.dead = true then (S.begin, 6) else (S.begin.wrote jn (64 * l.length) (secB (l.length + 1) r), 0) := by
  by_cases hd : S.begin.dead = true
  · rw [if_pos hd]
    unfold Dk.write; rw [hd]; rfl
  · rw [if_neg hd]
    refine write_ok (f := ⟨jn, secs 0 l, secs 0 l⟩) (by simpa using hd) (by rw [jn_right]; simp; omega) (find_one hf rfl) ?_ ?_ ?_
    · show ¬ ((secs 0 l).length : Int) < _
      rw [secs_len]; omega
    · rw [secB_len]; omega
    · have hu : S.used = sectors (64 * l.length) := by unfold Dk.used; rw [hf]; simp [secs_len]
      unfold moreS
      rw [hu, h.q]
      simp only [secs_len, secB_len]
      unfold sectors
      omega
/-- behind the next opening. -/
theorem secUp_one {ls : List Sec} (h : SecUp ls) {x : Sec} (ha : ∀ y ∈ ls, y = x) : ls = [] ∨ ls = [x] := by
  rcases ls with _ | ⟨a, _ | ⟨c, ls⟩⟩
  · exact .inl rfl
  · exact .inr (by rw [ha a (by simp)])
  · exfalso
    unfold SecUp at h
    have := (List.pairwise_cons.1 h).1 c (by simp)
    rw [ha a (by simp), ha c (by simp)] at this
    have e := swoS.irrefl x
    rw [e] at this; cases this
theorem St.lit (h : St S l x b) {keep : List Int} {ls : List Sec} (hls : LsIs S ls) (hl : (l ++ x).length ≤ 1000) :
    ∃ l', (l' = l ∨ l' = l ++ x) ∧ St (S.lit (onT S keep ls ls.length)) l' [] 0 := by
  obtain ⟨U, hU⟩ : ∃ U, U = S.lit (onT S keep ls ls.length) := ⟨_, rfl⟩
  have key : ∀ l', (l' = l ∨ l' = l ++ x) → (S.fs = [] ∧ l' = [] ∨ (∃ f, S.fs = [f] ∧ f.name = jn) ∧ onT S keep ls ls.length jn = secs 0 l') → St (S.lit (onT S keep ls ls.length)) l' [] 0 := by
    intro l' hl' hc
    refine ⟨h.q, Nat.le_refl _, ?_, fun _ _ => by simp [Dk.lit], by simp, ?_⟩
    · rcases hc with ⟨e, e2⟩ | ⟨⟨f, e, en⟩, e2⟩
      · exact .inl ⟨by show S.fs.map _ = []; rw [e]; rfl, e2, rfl⟩
      · refine .inr ?_
        show S.fs.map _ = _
        rw [e, List.append_nil]
        simp [en, e2]
    · intro r hr
      rw [List.append_nil] at hr
      rcases hl' with rfl | rfl
      · exact h.ne r (List.mem_append_left _ hr)
      · exact h.ne r hr
  rcases h.fs with ⟨e, e2, _⟩ | e
  · exact ⟨l, .inl rfl, key l (.inl rfl) (.inl ⟨e, e2⟩)⟩
  have hlast : S.lastsOf jn = secs 0 l := lastsOf_some (find_one e rfl)
  have hnow : S.nowOf jn = secs 0 (l ++ x) := nowOf_some (find_one e rfl)
  have hex : ∃ f : Fi, S.fs = [f] ∧ f.name = jn := ⟨_, e, rfl⟩
  have hmem : ∀ y ∈ ls, y.name = jn ∧ y.page.toNat = l.length ∧ 0 < x.length := fun y hy => by
    obtain ⟨s, p⟩ := y
    have h1 := (hls.2.1 s _ (hls.2.2 _ hy)).2 ⟨p, hy, rfl⟩
    rw [h.loose] at h1
    simp only [Bool.and_eq_true, decide_eq_true_eq, beq_iff_eq] at h1
    exact ⟨h1.2.1, by have h9 : ((p.toNat : Nat) : Int) = (l.length : Int) := h1.2.2; show p.toNat = l.length; omega, h1.1⟩
  have hone : ls = [] ∨ ∃ y, ls = [y] ∧ y.name = jn ∧ y.page.toNat = l.length ∧ 0 < x.length := by
    rcases ls with _ | ⟨a, t⟩
    · exact .inl rfl
    · obtain ⟨a1, a2, a3⟩ := hmem a (by simp)
      refine .inr ⟨a, ?_, a1, a2, a3⟩
      rcases secUp_one hls.1 (x := a) (fun y hy => by
        obtain ⟨y1, y2, _⟩ := hmem y hy
        obtain ⟨s, p⟩ := y
        obtain ⟨s', p'⟩ := a
        simp only at y1 y2 a1 a2
        subst y1; subst a1
        have : p = p' := UInt32.toNat_inj.1 (by omega)
        rw [this]) with e | e
      · cases e
      · exact e
  rcases hone with e3 | ⟨y, e3, y1, y2, y3⟩
  · refine ⟨l, .inl rfl, key l (.inl rfl) (.inr ⟨hex, ?_⟩)⟩
    rw [e3]; exact hlast
  · by_cases hk : keep.contains ((0 : Nat) : Int) = true
    · refine ⟨l ++ x, .inr rfl, key _ (.inr rfl) (.inr ⟨hex, ?_⟩)⟩
      rw [e3]
      show onS S keep 0 y (onT S keep [y] 0) jn = _
      unfold onS
      rw [if_pos hk]
      show (if jn = y.name then onB (S.nowOf y.name) (S.lastsOf y.name) y.page.toNat else _) = _
      rw [y1, if_pos rfl, hnow, hlast, y2]
      have hx : x.length = 1 := by have := h.x1; omega
      have hto : secTo (secs 0 (l ++ x)) l.length = 64 * (l.length + 1) := by unfold secTo; rw [secs_len, List.length_append]; omega
      unfold onB
      rw [hto, secs_len]
      unfold overZ
      have e5 : secs 0 (l ++ x) = secs 0 l ++ (secs 0 (l ++ x)).drop (64 * l.length) := by
        have := secs_takeF (l ++ x) l.length (by simp)
        rw [List.take_left'  rfl] at this
        conv => lhs; rw [← List.take_append_drop (64 * l.length) (secs 0 (l ++ x))]
        rw [this]
      have e6 : ((secs 0 (l ++ x)).drop (64 * l.length)).length = 64 := by rw [List.length_drop, secs_len, List.length_append]; omega
      have e7 : l.length * 64 = 64 * l.length := by omega
      rw [e7]
      generalize (secs 0 (l ++ x)).drop (64 * l.length) = d at *
      rw [List.take_append_of_le_length (by rw [secs_len]; omega), List.take_of_length_le (by rw [secs_len]; omega), List.take_of_length_le (by omega), List.drop_of_length_le (by simp [secs_len, e6]; omega), List.append_nil]
      exact e5.symm
    · refine ⟨l, .inl rfl, key l (.inl rfl) (.inr ⟨hex, ?_⟩)⟩
      rw [e3]
      show onS S keep 0 y (onT S keep [y] 0) jn = _
      unfold onS
      rw [if_neg hk]
      exact hlast
end
end Go.Proofs.Ytfbbbbekialpnaa

/- journal's Open and Add where the power may go, seen from an older world; begins. -/
namespace Go.Proofs.Ytfbbbbekialpnaa
open Go.RowKit
set_option maxRecDepth 100000
set_option maxHeartbeats 400000

section
variable {w0 w w1 : World} {d jb : Nat} {o : Own1} {S : Dk} {l : List Rc} {b : Nat} {v : Value}
theorem create_eq (hf : S.find jn = none) : S.create jn = if S.begin.dead = true then (S.begin, 6) else ({ S.begin with fs := S.fs ++ [⟨jn, [], []⟩] }, 0) := by
  unfold Dk.create
  rw [hf, jn_right]
  simp
def JnF (l : List Rc) : List Fi := [⟨jn, secs 0 l, secs 0 l⟩]
def OpenA (w0 : World) (d : Nat) (o : Own1) (S : Dk) (l : List Rc) (b : Nat) (w : World) (e : Ending) (w' : World) : Prop :=
  ∃ S2 o', DA w0 d o' S2 w' ∧ Ch o w o' w' ∧ St S2 l [] b ∧ (S.armed = 0 → S2.dead = false ∧ S2.armed = 0) ∧
    ((S2.dead = true ∧ e = .returned (.tuple #[.pointer none, .int .i64 6])) ∨ (S2.dead = false ∧ S2.fs = JnF l ∧ ∃ jb v, e = .returned (.tuple #[.pointer (some ⟨jb, 0, none⟩), .int .i64 0]) ∧ JR w' w.heap.size o' jb d v l))
theorem DA.openG (h : DA w0 d o S w) (hst : St S l [] b) (hd : S.dead = false) (hl : l.length ≤ 1000) :
    Calls Try.prog 30 #[.pointer (some ⟨d, 0, none⟩)] w (OpenA w0 d o S l b w) := by
  obtain ⟨c, h1⟩ := h.di
  have hfew := hst.few
  have hbd : S.armed = 0 → S.begin = S := begin_idle S
  have fin : ∀ {S2 : Dk} {e2 : Nat} {e : Ending} {w' : World}, OpenG o w w0.heap.size d S2 l e2 e w' → St S2 l [] b → (S.armed = 0 → S2.dead = false ∧ S2.armed = 0) → (e2 = 6 → S2.dead = true) → (e2 = 0 → S2.dead = false ∧ S2.fs = JnF l) → OpenA w0 d o S l b w e w' := by
    rintro S2 e2 e w' ⟨o', c', k1, k2, k3⟩ k4 k5 k6 k7
    refine ⟨S2, o', ⟨⟨c', k1⟩, k2.gr h.gr h.own0⟩, k2, k4, k5, ?_⟩
    rcases k3 with ⟨e6, e⟩ | ⟨e0, jb, v, e, hj⟩
    · exact .inl ⟨k6 e6, e⟩
    · exact .inr ⟨(k7 e0).1, (k7 e0).2, jb, v, e, hj⟩
  rcases hst.fs with ⟨e, rfl, _⟩ | e
  · have hf := find_zero e
    have hce := create_eq hf
    by_cases hb : S.begin.dead = true
    · rw [if_pos hb] at hce
      refine (open_none_gen h1 hd hf (by omega) (S1 := S.begin) (S2 := S.begin) (e1 := 6) (e2 := 6) hce (.inr rfl) (fun e => by cases e) (fun e => by cases e) (fun e => by cases e) (fun _ => ⟨rfl, rfl⟩)).mono fun _ _ hh => fin hh hst.begin (fun h0 => ?_) (fun _ => hb) (fun e => by cases e)
      rw [hbd h0, hd] at hb; cases hb
    · rw [if_neg hb] at hce
      obtain ⟨S1, hS1⟩ : ∃ S1 : Dk, S1 = { S.begin with fs := S.fs ++ [⟨jn, [], []⟩] } := ⟨_, rfl⟩
      rw [← hS1] at hce
      have f1 : S1.fs = [⟨jn, secs 0 ([] ++ []), secs 0 []⟩] := by rw [hS1]; show S.fs ++ _ = _; rw [e]; rfl
      have st1 : St S1 [] [] b := by
        have hB := hst.begin
        exact ⟨by rw [hS1]; exact hB.q, by rw [hS1]; exact hB.nl, .inr f1, by rw [hS1]; exact hB.loose, by simp, fun r hr => by simp at hr⟩
      have d1 : S1.dead = false := by rw [hS1]; simpa using hb
      have hff : S1.find jn = some ⟨jn, [], []⟩ := find_one f1 rfl
      have hse := sync_eq hff
      by_cases hb2 : S1.begin.dead = true
      · rw [if_pos hb2] at hse
        refine (open_none_gen h1 hd hf (by omega) (S1 := S1) (S2 := S1.begin) (e1 := 0) (e2 := 6) hce (.inl rfl) (fun _ => ⟨d1, hff⟩) (fun _ => hse) (fun _ => .inr rfl) (fun e => by cases e)).mono fun _ _ hh => fin hh st1.begin (fun h0 => ?_) (fun _ => hb2) (fun e => by cases e)
        have : S1.begin = S1 := begin_idle S1 (by rw [hS1]; show S.begin.armed = 0; rw [hbd h0]; exact h0)
        rw [this, d1] at hb2; cases hb2
      · rw [if_neg hb2] at hse
        obtain ⟨k1, k2⟩ := st1.begin.synced (by rw [begin_fs]; exact f1)
        refine (open_none_gen h1 hd hf (by omega) (S1 := S1) (S2 := S1.begin.synced jn) (e1 := 0) (e2 := 0) hce (.inl rfl) (fun _ => ⟨d1, hff⟩) (fun _ => hse) (fun _ => .inl rfl) (fun e => by cases e)).mono fun _ _ hh => fin hh k1 (fun h0 => ?_) (fun e => by cases e) (fun _ => ⟨by show S1.begin.dead = false; simpa using hb2, k2⟩)
        have h5 : S1.armed = 0 := by rw [hS1]; show S.begin.armed = 0; rw [hbd h0]; exact h0
        have h6 : S1.begin = S1 := begin_idle S1 h5
        rw [h6]; exact ⟨d1, h5⟩
  · rw [List.append_nil] at e
    have hf : S.find jn = some ⟨jn, secs 0 l, secs 0 l⟩ := find_one e rfl
    have hrl : readJ (secs 0 l) = l := readJ_secs (fun r hr => hst.ne r (by simpa using hr)) (by omega)
    have hse := sync_eq hf
    by_cases hb : S.begin.dead = true
    · rw [if_pos hb] at hse
      refine (open_some_gen h1 hd hf hrl (secs_len _ _) hse (.inr rfl)).mono fun _ _ hh => fin hh hst.begin (fun h0 => ?_) (fun _ => hb) (fun e => by cases e)
      rw [hbd h0, hd] at hb; cases hb
    · rw [if_neg hb] at hse
      obtain ⟨k1, k2⟩ := hst.begin.synced (by rw [begin_fs, List.append_nil]; exact e)
      rw [List.append_nil] at k1 k2
      refine (open_some_gen h1 hd hf hrl (secs_len _ _) hse (.inl rfl)).mono fun _ _ hh => fin hh k1 (fun h0 => ?_) (fun e => by cases e) (fun _ => ⟨by show S.begin.dead = false; simpa using hb, k2⟩)
      rw [hbd h0]; exact ⟨hd, h0⟩
theorem jo_own0 (h : DA w0 d o S w) (hj : JR w w0.heap.size o jb d v l) : ∀ i, jo o jb v i ≠ none → w0.heap.size ≤ i := fun i hi => by
  unfold jo at hi
  split at hi
  · next h2 =>
    rcases h2 with rfl | h2
    · exact hj.jB
    · exact (Own.blk_lt hj.own (by omega) h2).1
  · exact h.own0 i hi
def AddA (w0 : World) (d : Nat) (o : Own1) (jb : Nat) (v : Value) (l : List Rc) (r : Rc) (b : Nat) (w : World) (e : Ending) (w' : World) : Prop :=
  ∃ S2 o' v' lx, DA w0 d o' S2 w' ∧ JR w' w0.heap.size o' jb d v' lx ∧ Ch (jo o jb v) w (jo o' jb v') w' ∧
    ((e = .returned (.int .i64 0) ∧ S2.dead = false ∧ S2.fs = JnF (l ++ [r]) ∧ St S2 (l ++ [r]) [] (b + 64) ∧ lx = l ++ [r]) ∨ (e = .returned (.int .i64 6) ∧ S2.dead = true ∧ ∃ x, (x = [] ∨ x = [r]) ∧ St S2 l x (b + 64)))
theorem DA.addG (h : DA w0 d o S w) (hj : JR w w0.heap.size o jb d v l) (hst : St S l [] b) (hf : S.fs = JnF l) (hl : l.length < 1000) (hb : b ≤ 1000000000) (r : Rc) (hr : r.k ≠ 0) :
    Calls Try.prog 33 #[.pointer (some ⟨jb, 0, none⟩), .agg r.cells] w (AddA w0 d o jb v l r b w) := by
  obtain ⟨c, h1⟩ := h.di
  have hnl := hst.nl
  have hfew := hst.few
  have hwe := hst.write_eq hf hl r
  by_cases hd : S.begin.dead = true
  · rw [if_pos hd] at hwe
    refine (add_gen h1 hj r hr (by omega) (by omega) (by omega) (by omega) (S2 := S) (e2 := 0) hwe (.inr rfl) (fun e => by cases e) (fun e => by cases e)).mono ?_
    rintro e w' ⟨v', o', c', Sx, lx, er, rfl, k1, k2, k3, ⟨-, rfl, rfl, rfl⟩ | ⟨e0, -⟩ | ⟨e0, -⟩⟩
    · exact ⟨_, o', v', lx, ⟨⟨c', k1⟩, k3.gr h.gr (jo_own0 h hj)⟩, k2, k3, .inr ⟨rfl, hd, [], .inl rfl, hst.begin.mono (by omega)⟩⟩
    · cases e0
    · cases e0
  · rw [if_neg hd] at hwe
    obtain ⟨st1, f1⟩ := hst.begin.wrote (r := r) (by rw [begin_fs]; exact hf) hr
    obtain ⟨S1, hS1⟩ : ∃ S1, S1 = S.begin.wrote jn (64 * l.length) (secB (l.length + 1) r) := ⟨_, rfl⟩
    rw [← hS1] at hwe st1 f1
    have hse := sync_eq (find_one f1 rfl)
    by_cases hd2 : S1.begin.dead = true
    · rw [if_pos hd2] at hse
      refine (add_gen h1 hj r hr (by omega) (by omega) (by omega) (by omega) (S2 := S1.begin) (e2 := 6) hwe (.inl rfl) (fun _ => hse) (fun _ => .inr rfl)).mono ?_
      rintro e w' ⟨v', o', c', Sx, lx, er, rfl, k1, k2, k3, ⟨e0, -⟩ | ⟨-, -, rfl, rfl, rfl⟩ | ⟨-, e0, -⟩⟩
      · cases e0
      · exact ⟨_, o', v', lx, ⟨⟨c', k1⟩, k3.gr h.gr (jo_own0 h hj)⟩, k2, k3, .inr ⟨rfl, hd2, [r], .inr rfl, st1.begin⟩⟩
      · cases e0
    · rw [if_neg hd2] at hse
      obtain ⟨k4, k5⟩ := st1.begin.synced (by rw [begin_fs]; exact f1)
      refine (add_gen h1 hj r hr (by omega) (by omega) (by omega) (by omega) (S2 := S1.begin.synced jn) (e2 := 0) hwe (.inl rfl) (fun _ => hse) (fun _ => .inl rfl)).mono ?_
      rintro e w' ⟨v', o', c', Sx, lx, er, rfl, k1, k2, k3, ⟨e0, -⟩ | ⟨-, e0, -⟩ | ⟨-, -, rfl, rfl, rfl⟩⟩
      · cases e0
      · cases e0
      · exact ⟨_, o', v', _, ⟨⟨c', k1⟩, k3.gr h.gr (jo_own0 h hj)⟩, k2, k3, .inl ⟨rfl, by show S1.begin.dead = false; simpa using hd2, k5, k4, rfl⟩⟩
end
/-- a record of kind 0 is none. -/
theorem add_zero {w : World} {jb : Nat} (r : Rc) (hr : r.k = 0) :
    Calls Try.prog 33 #[.pointer (some ⟨jb, 0, none⟩), .agg r.cells] w fun e w' => e = .returned (.int .i64 1) ∧ w.grownBy w' none := by
  have hk : r.k.toNat = 0 := by rw [hr]; rfl
  unfold Rc.cells
  rw [hk]
  clear hr hk
  go_enter Try.func33, Try.ntmps33
  go_wp2
  go_ret
  exact ⟨rfl, gr_alloc _ _ _⟩
theorem RdR.cutF {w : World} {A : Option Addr} {n c : Nat} {b : List Rc} (h : RdR w (.slice A n c) b) {k : Nat} (hk : k ≤ b.length) : RdR w (.slice A k c) (b.take k) := h.takeF hk
theorem begins_any (v v' : Value) (l l' : List Rc) (w : World) (h : RdR w v l) (h' : RdR w v' l') (hn : l.length ≤ 1000000) (hle : l'.length ≤ l.length) (he : l.take l'.length = l') :
    Calls Try.prog 32 #[v, v'] w fun e w' => e = .returned (.bool true) ∧ w.grownBy w' none := by
  obtain ⟨A, c, rfl⟩ := h.form
  obtain ⟨A', c', rfl⟩ := h'.form
  obtain ⟨-, -, -, hc, -, -⟩ := h.at_
  have HS := Lib.hid (same_any _ _ _ _ w (h.takeF hle) h' (by rw [List.length_take]; omega) (by omega))
  have HE := Lib.hid he
  have hge : decide ((l'.length : Int) ≤ (l.length : Int)) = true := by simpa using hle
  clear h h' he
  go_enter Try.func32, Try.ntmps32
  go_wp2_with (go_at_call 44; refine HS.out.mono ?_; rintro e w1 ⟨⟨bb, rfl, hbb⟩, g1⟩; obtain rfl := hbb.2 HE.out)
  go_ret
  exact ⟨rfl, g1⟩
end Go.Proofs.Ytfbbbbekialpnaa

/- Lists of lists of whole numbers; records appended beside a disk and a journal. -/
namespace Go.Proofs.Ytfbbbbekialpnaa
open Go.RowKit
set_option maxRecDepth 100000
set_option maxHeartbeats 400000

def RdII (w : World) (v : Value) (ll : List (List Int)) : Prop := ∃ vs : List Value, Rd w 1 v ll.length vs ∧ ∀ i, i < ll.length → RdI w (vs.getD i undef) (ll.getD i [])
section
variable {w w' : World} {v : Value} {ll : List (List Int)}
theorem RdII.form (h : RdII w v ll) : ∃ A c, v = .slice A ll.length c := by obtain ⟨vs, ⟨_, A, c, _, _, e, _⟩, _⟩ := h; exact ⟨A, c, e⟩
theorem RdII.ext (h : RdII w v ll) (hg : w.grownBy w' none) : RdII w' v ll := by
  obtain ⟨vs, h1, h2⟩ := h
  exact ⟨vs, h1.ext hg, fun i hi => (h2 i hi).ext hg⟩
theorem RdII.at_ {A : Option Addr} {c : Nat} (h : RdII w (.slice A ll.length c) ll) : ∃ g off, (0 < ll.length → A = some ⟨g, off, none⟩) ∧ ll.length ≤ c ∧ c ≤ maxLen ∧ ∀ i, i < ll.length → ∃ Ai ci, w.cell? ⟨g, off + i, none⟩ = some (.slice Ai (ll.getD i []).length ci) ∧ RdI w (.slice Ai (ll.getD i []).length ci) (ll.getD i []) := by
  obtain ⟨vs, ⟨hl, A', c', g, off, e, hn, hc, _, hA, hx⟩, h2⟩ := h
  cases e
  refine ⟨g, off, fun h0 => hA (by omega), hn, hc, fun i hi => ?_⟩
  have h3 := h2 i hi
  obtain ⟨Ai, ci, e⟩ := h3.form
  rw [e] at h3
  refine ⟨Ai, ci, ?_, h3⟩
  rw [hx i (by omega), ← e]
  have : i < vs.length := by omega
  simp [List.getD, this]
end
/-- append(v, x), x one record that was laid just ahead. -/
theorem wp_app1RK {ops : Array Oper} {rest : List Oper} {o : Oper} {a : Act} {Q : Exit → Act → World → Prop} {w : World} (r : Rc) (C : Array Value) (hC : C = r.cells) (hgd : o.guard = none) (s0 x0 : Operand)
    (ho : o.op = .call { callee := .builtin .append, args := #[s0, x0], argTypes := #[49, 49] }) {B : Nat} {v : Value} {l : List Rc} (hs : a.eval s0 = v) (hown : OwnR w B v l)
    (g : Nat) (hx : a.eval x0 = .slice (some ⟨g, 0, none⟩) 1 1) (hg : g = w.heap.size) (hn : l.length ≤ 1000000000) (hB : B ≤ w.heap.size)
    (h : ∀ v' w', OwnR w' B v' (l ++ [r]) → Ext (w.alloc (.cells C 58)) w' v v' → wpList Try.prog ops Q rest (a.put o.dst v') w') :
    wpList Try.prog ops Q (o :: rest) a (w.alloc (.cells C 58)) := by
  subst hC hg
  have he : rcL [r] = r.cells.toList := by simp [rcL]
  refine wpList_plain hgd fun K hK => ?_
  obtain ⟨v', w', hrun, h2, h3⟩ := run_appS (P := Try.prog) (w.alloc (.cells r.cells 58)) B 49 o.type 58 _ 3 12 Try.underlying49 Try.infoR rfl (by omega) v l.length (rcL l) (OwnR.ext hown (gr_alloc _ _ none)) _ 1 (rcL [r])
    (rd_lit w 3 1 1 r.cells 58 rfl (Nat.le_refl _) (by unfold maxLen; omega)) (rc_one [r]) (by unfold maxLen; omega) (by omega) (by rw [World.size_alloc]; omega)
  unfold Oper.wp execOp
  simp only [ho, resolve, invoke, builtin, Sem.run_bind, Sem.run_pure, Result.andThen_ok, List.map_toArray, List.map_cons, List.map_nil, hs, hx, hrun]
  exact hK _ _ (h v' w' (ownR_app (m := [r]) h2) (ext_of_app h2 (by omega) h3))
section
variable {w0 w w' : World} {d jb : Nat} {o : Own1} {S : Dk} {l : List Rc} {v sv sv' : Value} {n m : Nat} {xs ys : List Value}
theorem Kp.unjo {B s : Nat} (h : Kp (jo o jb v) w B s sv n xs) : Kp o w B s sv n xs := ⟨h.own, fun k e => (jo_none (h.off k e)).2.2⟩
theorem DA.grown (h : DA w0 d o S w) (hk : Kp o w w0.heap.size 3 sv n xs) (hx : Ext w w' sv sv') : DA w0 d o S w' := by
  obtain ⟨r, g, hr, _⟩ := hx
  obtain ⟨c, h1⟩ := h.di
  exact ⟨⟨c, h1.far g fun k e => hk.off k (hr k e)⟩, gr_trans h.gr g (.inr fun k e => (Own.blk_lt hk.own (by omega) (hr k e)).1)⟩
theorem Kp.grown (h : DA w0 d o S w) (hk : Kp o w w0.heap.size 3 sv n xs) (hx : Ext w w' sv sv') (ho : Own w' w0.heap.size 3 sv' m ys) : Kp o w' w0.heap.size 3 sv' m ys := by
  obtain ⟨r, g, hr, ku, hku, hku2⟩ := hx
  refine ⟨ho, fun k e => ?_⟩
  rw [hku] at e
  cases e
  rcases hku2 with e | e
  · exact hk.off _ e
  · exact h.fresh e
theorem JR.grown (hj : JR w w0.heap.size o jb d v l) (hk : Kp (jo o jb v) w w0.heap.size 3 sv n xs) (hx : Ext w w' sv sv') : JR w' w0.heap.size o jb d v l := by
  obtain ⟨r, g, hr, _⟩ := hx
  refine ⟨hj.box.gr g fun e => (jo_none (hk.off jb (hr jb e))).1 rfl, Own.off hj.own g fun k e => (jo_none (hk.off k (hr k e))).2.1, hj.free, hj.jB, hj.sep⟩
theorem Kp.grownJ (h : DA w0 d o S w) (hj : JR w w0.heap.size o jb d v l) (hk : Kp (jo o jb v) w w0.heap.size 3 sv n xs) (hx : Ext w w' sv sv') (ho : Own w' w0.heap.size 3 sv' m ys) : Kp (jo o jb v) w' w0.heap.size 3 sv' m ys := by
  obtain ⟨r, g, hr, ku, hku, hku2⟩ := hx
  refine ⟨ho, fun k e => ?_⟩
  rw [hku] at e
  cases e
  rcases hku2 with e | e
  · exact hk.off _ e
  · have h1 := hj.box.lt
    exact jo_none_mk (by omega) (fun e2 => by have := (Own.blk_lt hj.own (by omega) e2).2; omega) (h.fresh e)
theorem jo_fresh (h : DA w0 d o S w) (hj : JR w w0.heap.size o jb d v l) {i : Nat} (hi : w.heap.size ≤ i) : jo o jb v i = none := by
  have h1 := hj.box.lt
  exact jo_none_mk (by omega) (fun e2 => by have := (Own.blk_lt hj.own (by omega) e2).2; omega) (h.fresh hi)
/-- a journal that was just opened has none of what was there. -/
theorem Kp.opened (hk : Kp o w w0.heap.size 3 sv n xs) {w1 : World} {o1 : Own1} (hc : Ch o w o1 w1) (hj : JR w1 w.heap.size o1 jb d v l) : Kp (jo o1 jb v) w1 w0.heap.size 3 sv n xs := by
  have k1 := hk.ch hc (by omega)
  refine ⟨k1.own, fun k e => ?_⟩
  have h1 := (Own.blk_lt hk.own (by omega) e).2
  have h2 := hj.jB
  exact jo_none_mk (by omega) (fun e2 => by have := (Own.blk_lt hj.own (by omega) e2).1; omega) (k1.off k e)
end
end Go.Proofs.Ytfbbbbekialpnaa
