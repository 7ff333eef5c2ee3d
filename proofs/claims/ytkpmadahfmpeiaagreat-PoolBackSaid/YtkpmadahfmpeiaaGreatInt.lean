/-
  A disk with one file: plain.
-/
import Derived.Test.YtkpmadahfmpeiaaGreatVm
import Derived.Test.YtkpmadahfmpeiaaGreatRg
import Derived.Test.YtkpmadahfmpeiaaGreatDk
namespace Go.Proofs.YtkpmadahfmpeiaaGreat

structure One (S : Dk) (n now lasts : List UInt8) (q : Nat) : Prop where
  idle : Idle S
  fs : S.fs = [⟨n, now, lasts⟩]
  q : S.quota = q
section
variable {S : Dk} {n now lasts : List UInt8} {q : Nat}
theorem One.find (h : One S n now lasts q) : S.find n = some ⟨n, now, lasts⟩ := by unfold Dk.find; rw [h.fs]; simp
theorem One.used (h : One S n now lasts q) : S.used = sectors now.length := by unfold Dk.used; rw [h.fs]; simp
theorem One.fl (h : One S n now lasts q) : S.fs.length = 1 := by rw [h.fs]; rfl
theorem One.nowOf (h : One S n now lasts q) : S.nowOf n = now := nowOf_some h.find
theorem One.lastsOf (h : One S n now lasts q) : S.lastsOf n = lasts := lastsOf_some h.find
theorem one_new (q : Nat) {n : List UInt8} (hr : rightB n = true) : ((newD q).create n).2 = 0 ∧ One ((newD q).create n).1 n [] [] q := by
  have := create_idle (S := newD q) (n := n) ⟨rfl, rfl⟩ hr rfl
  rw [this]
  exact ⟨rfl, ⟨rfl, rfl⟩, rfl, rfl⟩
theorem setF_one (n now lasts : List UInt8) (g : Fi → Fi) : setF [⟨n, now, lasts⟩] n g = [g ⟨n, now, lasts⟩] := by simp [setF]
theorem One.write (h : One S n now lasts q) (hr : rightB n = true) {p : Nat} {b : List UInt8} (hp : p ≤ now.length) (hl : p + b.length ≤ 16777216) (hq : sectors (max now.length (p + b.length)) ≤ q) :
    (S.write n p b).2 = 0 ∧ One (S.write n p b).1 n (overZ now p b) lasts q ∧ (S.write n p b).1 = S.wrote n p b := by
  have e := write_idle (S := S) (n := n) (p := p) (b := b) h.idle hr h.find hp hl (by
    unfold moreS
    rw [h.used, h.q]
    show ¬ (_ ∧ (q : Int) < (sectors now.length : Int) + ((sectors (max now.length (p + b.length)) : Int) - sectors now.length))
    omega)
  rw [e]
  refine ⟨rfl, ⟨⟨h.idle.1, h.idle.2⟩, ?_, h.q⟩, rfl⟩
  show setF S.fs n _ = _
  rw [h.fs, setF_one]
theorem One.sync (h : One S n now lasts q) (hr : rightB n = true) : (S.sync n).2 = 0 ∧ One (S.sync n).1 n now now q ∧ (S.sync n).1 = S.synced n := by
  rw [sync_idle h.idle hr h.find]
  refine ⟨rfl, ⟨⟨h.idle.1, h.idle.2⟩, ?_, h.q⟩, rfl⟩
  show setF S.fs n _ = _
  rw [h.fs, setF_one]
theorem One.cut (h : One S n now lasts q) (hr : rightB n = true) {k : Nat} (hk : k ≤ now.length) : (S.cut n k).2 = 0 ∧ One (S.cut n k).1 n (now.take k) (lasts.take k) q := by
  rw [cut_idle h.idle hr h.find hk]
  refine ⟨rfl, ⟨h.idle.1, h.idle.2⟩, ?_, h.q⟩
  show setF S.fs n _ = _
  rw [h.fs, setF_one]
theorem One.cut_bad (h : One S n now lasts q) {k : Int} (hk : k < 0 ∨ (now.length : Int) < k) : (S.cut n k).2 = 1 := by
  unfold Dk.cut
  rw [h.idle.begin, if_neg (by rw [h.idle.2]; simp)]
  by_cases h0 : rightB n = false ∨ k < 0
  · rw [if_pos h0]
  · rw [if_neg h0, h.find]
    show (if (now.length : Int) < k then (S, 1) else _ : Dk × Nat).2 = 1
    rw [if_pos (by rw [not_or] at h0; omega)]
theorem One.read (h : One S n now lasts q) (hr : rightB n = true) (p k : Nat) : S.read n p k = ((now.drop p).take k, 0) := read_idle h.idle hr h.find
theorem One.size (h : One S n now lasts q) (hr : rightB n = true) : S.size n = (now.length, 0) := size_idle h.idle hr h.find
/-- the power goes at the next operation. -/
theorem One.arm (h : One S n now lasts q) (k : Nat) : S.arm k = ({ S with armed := k }, 0) := by
  unfold Dk.arm; rw [if_neg (by omega), if_neg (by rw [h.idle.2]; simp), Int.toNat_natCast]
def Dk.off (S : Dk) : Dk := { S with armed := 0, dead := true }
theorem create_off (S : Dk) (n : List UInt8) : ({ S with armed := 1 } : Dk).create n = (S.off, 6) := by
  have e : ({ S with armed := 1 } : Dk).begin = S.off := by unfold Dk.begin Dk.off; simp
  unfold Dk.create
  rw [e, if_pos (show S.off.dead = true from rfl)]
theorem sync_off (S : Dk) (n : List UInt8) : ({ S with armed := 1 } : Dk).sync n = (S.off, 6) := by
  have e : ({ S with armed := 1 } : Dk).begin = S.off := by unfold Dk.begin Dk.off; simp
  unfold Dk.sync
  rw [e, if_pos (show S.off.dead = true from rfl)]
theorem Sm.off {a b : Nat} (h : Sm S a b) : Sm S.off a b := ⟨h.fl, h.nl, h.li⟩
theorem off_nowOf (S : Dk) (s : List UInt8) : S.off.nowOf s = S.nowOf s := rfl
theorem off_lastsOf (S : Dk) (s : List UInt8) : S.off.lastsOf s = S.lastsOf s := rfl
theorem One.lit (h : One S n now lasts q) (T : List UInt8 → List UInt8) : One (S.off.lit T) n (T n) (T n) q := by
  refine ⟨⟨rfl, rfl⟩, ?_, h.q⟩
  show S.fs.map _ = _
  rw [h.fs]; rfl
end
end Go.Proofs.YtkpmadahfmpeiaaGreat

/- What the disk's laws share: twin, same, works. -/
namespace Go.Proofs.YtkpmadahfmpeiaaGreat
open Go.RowKit
set_option maxRecDepth 100000
set_option maxHeartbeats 400000

theorem LsIs.in_ {S : Dk} {ls : List Sec} (h : LsIs S ls) (hli : LooseIn S) : ∀ x ∈ ls, x.page.toNat * 64 < (S.nowOf x.name).length := fun x hx => by
  obtain ⟨s, p⟩ := x
  obtain ⟨f, h1, h2, h3⟩ := hli s _ ((h.2.1 s _ (h.2.2 _ hx)).2 ⟨p, hx, rfl⟩)
  rw [nowOf_some h1]
  omega
/-- nothing but draws. -/
def DrewS (w w' : World) : Prop := ∃ q, w' = w.drewN q
theorem RdB.at_ {w : World} {A : Option Addr} {c : Nat} {l : List UInt8} (h : RdB w (.slice A l.length c) l) : ∃ g off, (0 < l.length → A = some ⟨g, off, none⟩) ∧ l.length ≤ c ∧ c ≤ maxLen ∧ ∀ k (hk : k < l.length), w.cell? ⟨g, off + k, none⟩ = some (.int .u8 l[k].toNat) := by
  obtain ⟨hl, A', c', g, off, e, hn, hc, hA0, hA, hx⟩ := h
  cases e
  refine ⟨g, off, fun h0 => hA (by omega), hn, hc, fun k hk => ?_⟩
  rw [hx k (by omega), List.getElem?_map, List.getElem?_eq_getElem hk]
  rfl
set_option maxHeartbeats 1000000 in
theorem same6_q (v v' : Value) (l l' : List UInt8) (w : World) (h : RdB w v l) (h' : RdB w v' l') (hn : l.length ≤ 1000000000) (hn' : l'.length ≤ 1000000000) :
    Calls Tryz.prog 74 #[v, v'] w fun e w' => e = .returned (.bool (l == l')) ∧ ∃ q, w' = w.drewN q := by
  obtain ⟨A, c, rfl⟩ := h.form
  obtain ⟨A', c', rfl⟩ := h'.form
  obtain ⟨g, off, hA, hc1, hm1, hcells⟩ := h.at_
  obtain ⟨g', off', hA', hc2, hm2, hcells'⟩ := h'.at_
  have HA := Lib.hid hA
  have HC := Lib.hid hcells
  have HA' := Lib.hid hA'
  have HC' := Lib.hid hcells'
  clear hA hcells hA' hcells' h h' hm1 hm2
  by_cases hl : l.length = l'.length
  · have hb : ((l.length : Int) != (l'.length : Int)) = false := by rw [bne_eq_false_iff_eq]; omega
    have hl1 : l.length ≤ l'.length := by omega
    have hl2 : l'.length ≤ l.length := by omega
    clear hl
    go_enter Tryz.func74, Tryz.ntmps74
    go_wp2
    go_loopw [5] (fun i wr => ∃ k : Nat, k ≤ l.length ∧ i = .int .i64 k ∧ l.take k = l'.take k ∧ DrewS w wr) (fun i _ => l.length - (intOf i).toNat)
    case atStart => exact ⟨0, by omega, rfl, by simp, 0, rfl⟩
    case round =>
      obtain ⟨k, hk, rfl, hall, hg⟩ := hrel
      obtain ⟨q0, hq0⟩ := hg
      have HQ0 := Lib.hid hq0
      have hg : w.grownBy wr none := by rw [hq0]; exact gr_drewN w q0 none
      clear hq0
      have Hall := Lib.hid hall
      clear hall
      by_cases hlt : k < l.length
      · have hlt' : k < l'.length := by omega
        have := HA.out (by omega)
        subst this
        have := HA'.out (by omega)
        subst this
        have c0 := hg.cell (HC.out k hlt) (by simp)
        have d0 := hg.cell (HC'.out k hlt') (by simp)
        have hx := l[k].toNat_lt
        have hy := l'[k].toNat_lt
        have Hiff : Hid (l[k] = l'[k] ↔ l[k].toNat = l'[k].toNat) := ⟨fun e => by rw [e], fun e => UInt8.toNat_inj.1 e⟩
        obtain ⟨x, hxe⟩ : ∃ x, x = l[k].toNat := ⟨_, rfl⟩
        obtain ⟨y, hye⟩ : ∃ y, y = l'[k].toNat := ⟨_, rfl⟩
        rw [← hxe] at c0 hx
        rw [← hye] at d0 hy
        have HX := Lib.hid hxe
        have HY := Lib.hid hye
        clear hxe hye
        by_cases hxy : x = y
        · subst hxy
          have hne : ((x : Int) != (x : Int)) = false := by simp
          have HXY : Hid (l[k] = l'[k]) := Hiff.out.2 (by rw [← HX.out, ← HY.out])
          go_wp2_with fail
          go_quiet (fail)
          go_wp2
          go_roundw
          case rel => exact ⟨k + 1, by omega, by go_num, by
            rw [List.take_succ_eq_append_getElem hlt, List.take_succ_eq_append_getElem hlt', Hall.out, HXY.out], q0 + nq, by rw [HQ0.out, World.drewN_drewN]⟩
          case measure => simp [intOf]; omega
        · have hne : ((x : Int) != (y : Int)) = true := by rw [bne_iff_ne]; omega
          have Hd : Hid ((l == l') = false) := by
            show _ = _
            rw [beq_eq_false_iff_ne]
            intro e
            subst e
            exact hxy (by rw [HX.out, HY.out])
          go_wp2_with fail
          go_quiet (fail)
          go_wp2
          go_ret
          exact ⟨by rw [Hd.out]; rfl, q0 + nq, by rw [HQ0.out, World.drewN_drewN]⟩
      · obtain rfl : k = l.length := by omega
        have He : Hid ((l == l') = true) := by
          have := Hall.out
          rw [List.take_length, List.take_of_length_le hl2] at this
          show _ = _
          rw [beq_iff_eq]; exact this
        go_wp2
        go_ret
        exact ⟨by rw [He.out]; rfl, q0, HQ0.out⟩
  · have hb : ((l.length : Int) != (l'.length : Int)) = true := by rw [bne_iff_ne]; omega
    have Hd : Hid ((l == l') = false) := by
      show _ = _
      rw [beq_eq_false_iff_ne]
      exact fun e => hl (by rw [e])
    clear hl
    go_enter Tryz.func74, Tryz.ntmps74
    go_wp2
    go_ret
    exact ⟨by rw [Hd.out]; rfl, 0, rfl⟩

theorem same6_any (v v' : Value) (l l' : List UInt8) (w : World) (h : RdB w v l) (h' : RdB w v' l') (hn : l.length ≤ 1000000000) (hn' : l'.length ≤ 1000000000) :
    Calls Tryz.prog 74 #[v, v'] w fun e w' => e = .returned (.bool (l == l')) ∧ w.grownBy w' none :=
  (same6_q v v' l l' w h h' hn hn').mono fun _ _ ⟨e, q, h⟩ => ⟨e, by rw [h]; exact gr_drewN _ _ _⟩

/-- the anchor. -/
def wkD : Dk := ((((newD 4).create an).1.write an 0 [7, 8]).1.sync an).1
theorem wk1 : ((newD 4).create an).2 = 0 := by decide
theorem wk2 : (((newD 4).create an).1.write an 0 [7, 8]).2 = 0 := by decide
theorem wk3 : ((((newD 4).create an).1.write an 0 [7, 8]).1.sync an).2 = 0 := by decide
theorem wk4 : wkD.read an 1 9 = ([8], 0) := by decide
theorem wk5 : wkD.used = 1 := by decide
end Go.Proofs.YtkpmadahfmpeiaaGreat

/- Lists of whole numbers: append, has. -/
namespace Go.Proofs.YtkpmadahfmpeiaaGreat
open Go.RowKit
set_option maxRecDepth 100000
set_option maxHeartbeats 400000

theorem Tryz.infoI : (Tryz.prog.info? 3).map (fun i => (i.zero, i.size, i.bytes)) = some (some (.int .i64 0), 1, 8) := by kernel_rfl
def OwnI (w : World) (B : Nat) (v : Value) (l : List Int) : Prop := Own w B 1 v l.length (intL l)
def RdI (w : World) (v : Value) (l : List Int) : Prop := Rd w 1 v l.length (intL l)
theorem int_one (l : List Int) : ∀ u ∈ intL l, u.oneCell' = true := by
  intro u hu
  obtain ⟨b, _, rfl⟩ := List.mem_map.1 hu
  rfl
theorem own_appI {w : World} {B : Nat} {v : Value} {l m : List Int} (h : Own w B 1 v (l.length + m.length) (intL l ++ intL m)) : OwnI w B v (l ++ m) := by
  unfold OwnI intL
  rw [List.length_append, List.map_append]
  exact h
theorem wp_appI {ops : Array Oper} {rest : List Oper} {o : Oper} {a : Act} {Q : Exit → Act → World → Prop} {w : World} (hgd : o.guard = none) (s0 x0 : Operand)
    (ho : o.op = .call { callee := .builtin .append, args := #[s0, x0], argTypes := #[64, 64] }) {B : Nat} {v x : Value} {l m : List Int} (hs : a.eval s0 = v) (hown : OwnI w B v l)
    (hx : a.eval x0 = x) (hr : RdI w x m) (hn : l.length + m.length ≤ 1000000000) (hB : B ≤ w.heap.size)
    (h : ∀ v' w', OwnI w' B v' (l ++ m) → w.grownBy w' v.ownBlock → (v'.ownBlock = v.ownBlock ∨ ∃ k, v'.ownBlock = some k ∧ w.heap.size ≤ k) → wpList Tryz.prog ops Q rest (a.put o.dst v') w') :
    wpList Tryz.prog ops Q (o :: rest) a w :=
  wp_app w hgd s0 x0 _ ho B 3 _ 1 8 Tryz.underlying64 Tryz.infoI rfl (by omega) v _ _ hs hown x _ _ hx hr (int_one m) (by unfold maxLen; omega) (by omega) hB
    fun v' w' h1 h2 h3 => h v' w' (own_appI h1) h2 h3
theorem own_emptyI (w : World) (B : Nat) (hB : B ≤ w.heap.size) : OwnI (w.alloc (.cells #[] 3)) B (.slice (some ⟨w.heap.size, 0, none⟩) 0 0) [] :=
  own_lit w B 1 0 0 #[] _ (0, 0) (.inl (by simp)) rfl (Nat.le_refl _) (Nat.zero_le _) hB
theorem RdI.form {w : World} {v : Value} {l : List Int} (h : RdI w v l) : ∃ A c, v = .slice A l.length c := by
  obtain ⟨_, A, c, _, _, e, _⟩ := h; exact ⟨A, c, e⟩
theorem RdI.ext {w w' : World} {v : Value} {l : List Int} (h : RdI w v l) (hg : w.grownBy w' none) : RdI w' v l := Rd.ext h hg
/-- an operation whose guard lets it run. -/
theorem wpList_on {P : Program} {ops : Array Oper} {rest : List Oper} {o : Oper} {a : Act} {w : World} {Q : Exit → Act → World → Prop} (hw : Region.wanted o (yielded ops a.tmps) = true)
    (h : ∀ K : Act → World → Prop, (∀ a w, wpList P ops Q rest a w → K a w) → o.wp P a w K Q) : wpList P ops Q (o :: rest) a w :=
  wpList_step fun K hK => by rw [if_pos hw]; exact h K hK
/-- append(v, x...) of whole numbers, behind a guard. -/
theorem wp_appI_on {ops : Array Oper} {rest : List Oper} {o : Oper} {a : Act} {Q : Exit → Act → World → Prop} {w : World} (hgd : Region.wanted o (yielded ops a.tmps) = true) (s0 x0 : Operand)
    (ho : o.op = .call { callee := .builtin .append, args := #[s0, x0], argTypes := #[64, 64] }) {B : Nat} {v x : Value} {l m : List Int} (hs : a.eval s0 = v) (hown : OwnI w B v l)
    (hx : a.eval x0 = x) (hr : RdI w x m) (hn : l.length + m.length ≤ 1000000000) (hB : B ≤ w.heap.size)
    (h : ∀ v' w', OwnI w' B v' (l ++ m) → w.grownBy w' v.ownBlock → (v'.ownBlock = v.ownBlock ∨ ∃ k, v'.ownBlock = some k ∧ w.heap.size ≤ k) → wpList Tryz.prog ops Q rest (a.put o.dst v') w') :
    wpList Tryz.prog ops Q (o :: rest) a w := by
  refine wpList_on hgd fun K hK => ?_
  obtain ⟨v', w', hrun, h2, h3, h4⟩ := run_app (P := Tryz.prog) w B 64 o.type 3 _ 1 8 Tryz.underlying64 Tryz.infoI rfl (by omega) v _ _ hown x _ _ hr (int_one m) (by unfold maxLen; omega) (by omega) hB
  unfold Oper.wp execOp
  simp only [ho, resolve, invoke, builtin, Sem.run_bind, Sem.run_pure, Result.andThen_ok, List.map_toArray, List.map_cons, List.map_nil, hs, hx, hrun]
  exact hK _ _ (h v' w' (own_appI h2) h3 h4)
end Go.Proofs.YtkpmadahfmpeiaaGreat
