/-
  A disk: Write, the walk.
-/
import Derived.Test.YtipankjajdpiiaaGreatOnC
import Derived.Deep.DeepCutAuto
namespace Go.Proofs.YtipankjajdpiiaaGreat
open Go.RowKit
set_option maxRecDepth 100000
set_option maxHeartbeats 400000
section
variable {w : World} {B d : Nat} {o : Own1} {S : Dk} {c : Con}
theorem write_dead {n : List UInt8} {off : Int} {b : List UInt8} (hd : S.begin.dead = true) : S.write n off b = (S.begin, 6) := by unfold Dk.write; rw [hd]; rfl
theorem write_badarg {n : List UInt8} {off : Int} {b : List UInt8} (hd : S.begin.dead = false) (h : rightB n = false ∨ off < 0) : S.write n off b = (S.begin, 1) := by unfold Dk.write; rw [hd, if_pos h]; rfl
theorem write_none {n : List UInt8} {off : Int} {b : List UInt8} (hd : S.begin.dead = false) (h : ¬ (rightB n = false ∨ off < 0)) (hf : S.find n = none) : S.write n off b = (S.begin, 3) := by unfold Dk.write; rw [hd, if_neg h, hf]; rfl
theorem write_far {n : List UInt8} {off : Int} {b : List UInt8} {f : Fi} (hd : S.begin.dead = false) (h : ¬ (rightB n = false ∨ off < 0)) (hf : S.find n = some f) (h1 : (f.now.length : Int) < off) : S.write n off b = (S.begin, 1) := by
  unfold Dk.write; rw [hd, if_neg h, hf]; simp only [Bool.false_eq_true, if_false]; rw [if_pos h1]
theorem write_many {n : List UInt8} {off : Int} {b : List UInt8} {f : Fi} (hd : S.begin.dead = false) (h : ¬ (rightB n = false ∨ off < 0)) (hf : S.find n = some f) (h1 : ¬ (f.now.length : Int) < off) (h2 : 16777216 - off < b.length) : S.write n off b = (S.begin, 9) := by
  unfold Dk.write; rw [hd, if_neg h, hf]; simp only [Bool.false_eq_true, if_false]; rw [if_neg h1, if_pos h2]
def moreS (f : Fi) (p : Nat) (b : List UInt8) : Int := (sectors (max f.now.length (p + b.length)) : Int) - sectors f.now.length
theorem write_full {n : List UInt8} {p : Nat} {b : List UInt8} {f : Fi} (hd : S.begin.dead = false) (h : ¬ (rightB n = false ∨ (p : Int) < 0)) (hf : S.find n = some f) (h1 : ¬ (f.now.length : Int) < p) (h2 : ¬ 16777216 - (p : Int) < b.length) (h3 : 0 < moreS f p b ∧ (S.quota : Int) < S.used + moreS f p b) : S.write n p b = (S.begin, 5) := by
  unfold Dk.write; rw [hd, if_neg h, hf]; simp only [Bool.false_eq_true, if_false]; rw [if_neg h1, if_neg h2, Int.toNat_natCast]; exact if_pos h3
theorem write_ok {n : List UInt8} {p : Nat} {b : List UInt8} {f : Fi} (hd : S.begin.dead = false) (h : ¬ (rightB n = false ∨ (p : Int) < 0)) (hf : S.find n = some f) (h1 : ¬ (f.now.length : Int) < p) (h2 : ¬ 16777216 - (p : Int) < b.length) (h3 : ¬ (0 < moreS f p b ∧ (S.quota : Int) < S.used + moreS f p b)) : S.write n p b = (S.begin.wrote n p b, 0) := by
  unfold Dk.write; rw [hd, if_neg h, hf]; simp only [Bool.false_eq_true, if_false]; rw [if_neg h1, if_neg h2, Int.toNat_natCast]; exact if_neg h3

theorem sectors_q (n : Int) (w : World) (h0 : 0 ≤ n) (h1 : n ≤ 1000000000000) : Calls Tryz.prog 75 #[.int .i64 n] w fun e w' => e = .returned (.int .i64 (sectors n.toNat)) ∧ w' = w := (sectors_any n w h0 h1).mono fun _ _ ⟨a, b⟩ => ⟨a, b.symm⟩
set_option maxHeartbeats 2000000 in
theorem write_any (h : DI w B o d S c) (n : List UInt8) (hn : n.length ≤ 1000000000) (off : Int) (hoff : -9223372036854775808 ≤ off ∧ off ≤ 9223372036854775807) (bv : Value) (b : List UInt8) (hb : RdB w bv b) (hbb : ∀ k, blk bv = some k → k < w.heap.size ∧ o k = none) (hbl : b.length ≤ 1000000000000)
    (hfl : S.fs.length ≤ 1000000) (hnl : S.nl + b.length ≤ 4611686018427387904) :
    Calls Tryz.prog 27 #[.pointer (some ⟨d, 0, none⟩), .string ⟨n.toArray⟩, .int .i64 off, bv] w fun e w' => e = .returned (.int .i64 (S.write n off b).2) ∧ DOut o w B d (S.write n off b).1 w' := by
  obtain ⟨Ab, cb, rfl⟩ := hb.form
  have H := Lib.hid h
  have hbg := begin_any h
  have HB := Lib.hid hbg
  have HBV := Lib.hid hb
  have HBB := Lib.hid hbb
  clear h hbg hb hbb
  cases hd : S.begin.dead with
  | true =>
    rw [write_dead hd]
    go_enter Tryz.func27, Tryz.ntmps27
    go_wp2_with fail
    refine HB.out.mono ?_
    rintro e w1 ⟨rfl, h1, g1⟩
    have H1 := Lib.hid h1
    clear h1
    rw [hd]
    go_wp2
    go_ret
    exact ⟨rfl, dout_begin H.out H1.out g1 (gr_refl _ _)⟩
  | false =>
    by_cases hbad : rightB n = false ∨ off < 0
    · rw [write_badarg hd hbad]
      obtain ⟨fine, hfine, hbf⟩ : ∃ fine : Bool, decide (0 ≤ off) = fine ∧ (rightB n = false ∨ fine = false) := ⟨decide (0 ≤ off), rfl, by rcases hbad with h | h; exact .inl h; right; simpa using h⟩
      have Hbad := Lib.hid (fun (wx : World) => find_bad d n fine wx hn hbf)
      clear hbad hbf
      go_enter Tryz.func27, Tryz.ntmps27
      go_wp2_with fail
      refine HB.out.mono ?_
      rintro e w1 ⟨rfl, h1, g1⟩
      have H1 := Lib.hid h1
      clear h1
      rw [hd]
      go_wp2_with (go_at_call 74; refine (Hbad.out _).mono ?_; rintro e w2 ⟨rfl, g2⟩)
      go_ret
      exact ⟨rfl, dout_begin H.out H1.out g1 g2⟩
    · obtain ⟨hr, hk0⟩ : rightB n = true ∧ 0 ≤ off := by simpa [not_or] using hbad
      obtain ⟨p, rfl⟩ := Int.eq_ofNat_of_zero_le hk0
      cases hf : S.find n with
      | none =>
        rw [write_none hd hbad hf]
        have hf1 : S.begin.find n = none := by rw [begin_find]; exact hf
        clear hf hbad
        go_enter Tryz.func27, Tryz.ntmps27
        go_wp2_with fail
        refine HB.out.mono ?_
        rintro e w1 ⟨rfl, h1, g1⟩
        have H1 := Lib.hid h1
        have Hfo := Lib.hid (find_no h1 hn hr hf1)
        clear h1 hf1
        rw [hd]
        go_wp2_with (go_at_call 74; refine Hfo.out.mono ?_; rintro e w2 ⟨rfl, g2⟩)
        go_ret
        exact ⟨rfl, dout_begin H.out H1.out g1 g2⟩
      | some f =>
        have hf1 : S.begin.find n = some f := by rw [begin_find]; exact hf
        obtain ⟨hm, rfl⟩ := find_some hf1
        have Hm := Lib.hid hm
        clear hm
        by_cases hlen : (f.now.length : Int) < (p : Int)
        · rw [write_far hd hbad hf hlen]
          clear hf hbad
          go_enter Tryz.func27, Tryz.ntmps27
          go_wp2_with fail
          refine HB.out.mono ?_
          rintro e w1 ⟨rfl, h1, g1⟩
          have H1 := Lib.hid h1
          have G1 := Lib.hid g1
          have Hfo := Lib.hid (find_ok h1 hn hr hf1)
          clear h1 hf1 g1
          rw [hd]
          go_wp2_with fail
          refine Hfo.out.mono ?_
          rintro e w2 ⟨rfl, g2⟩
          have h2 := H1.out.ext g2
          have H2 := Lib.hid h2
          have G2 := Lib.hid g2
          have hfr := h2.file f Hm.out
          have HFR := Lib.hid hfr
          have hsm := hfr.small
          obtain ⟨A, cp, hv⟩ := hfr.now.rd.form
          have hfc : w2.cell? ⟨c.fb f.name, 0, none⟩ = some (.slice A f.now.length cp) := by rw [← hv]; exact hfr.box.cell 0
          have HV := Lib.hid hv
          clear hfr hv hd hr g2 h2
          go_wp2
          go_ret
          exact ⟨rfl, dout_begin H.out H1.out G1.out G2.out⟩
        · by_cases hmany : (16777216 : Int) - (p : Int) < (b.length : Int)
          · rw [write_many hd hbad hf hlen hmany]
            clear hf hbad
            go_enter Tryz.func27, Tryz.ntmps27
            go_wp2_with fail
            refine HB.out.mono ?_
            rintro e w1 ⟨rfl, h1, g1⟩
            have H1 := Lib.hid h1
            have G1 := Lib.hid g1
            have Hfo := Lib.hid (find_ok h1 hn hr hf1)
            clear h1 hf1 g1
            rw [hd]
            go_wp2_with fail
            refine Hfo.out.mono ?_
            rintro e w2 ⟨rfl, g2⟩
            have h2 := H1.out.ext g2
            have H2 := Lib.hid h2
            have G2 := Lib.hid g2
            have hfr := h2.file f Hm.out
            have HFR := Lib.hid hfr
            have hsm := hfr.small
            obtain ⟨A, cp, hv⟩ := hfr.now.rd.form
            have hfc : w2.cell? ⟨c.fb f.name, 0, none⟩ = some (.slice A f.now.length cp) := by rw [← hv]; exact hfr.box.cell 0
            have HV := Lib.hid hv
            clear hfr hv hd hr g2 h2
            have hpl : (p : Int) ≤ (f.now.length : Int) := by omega
            clear hlen
            go_wp2
            go_ret
            exact ⟨rfl, dout_begin H.out H1.out G1.out G2.out⟩
          · obtain ⟨q, hq⟩ : ∃ q, q = max f.now.length (p + b.length) := ⟨_, rfl⟩
            have hpl : (p : Int) ≤ (f.now.length : Int) := by omega
            have hbp : (b.length : Int) ≤ 16777216 - (p : Int) := by omega
            have hql : q ≤ 16777216 + f.now.length := by omega
            have hqge : f.now.length ≤ q := by omega
            have hmq : moreS f p b = (sectors q : Int) - sectors f.now.length := by unfold moreS; rw [hq]
            have hss : sectors f.now.length ≤ sectors q ∧ sectors q ≤ 1000000 + f.now.length := by unfold sectors; omega
            have hqu : S.begin.quota = S.quota := (begin_loose S).2.2
            have hus : S.begin.used = S.used := by unfold Dk.used; rw [begin_fs]
            have hW1 : Hid (0 < (sectors q : Int) - sectors f.now.length ∧ (S.begin.quota : Int) < S.begin.used + ((sectors q : Int) - sectors f.now.length) → S.write f.name p b = (S.begin, 5)) := fun h3 => write_full hd hbad hf hlen (by omega) (by rw [hmq, ← hqu, ← hus]; exact h3)
            have hW2 : Hid (¬ (0 < (sectors q : Int) - sectors f.now.length ∧ (S.begin.quota : Int) < S.begin.used + ((sectors q : Int) - sectors f.now.length)) → S.write f.name p b = (S.begin.wrote f.name p b, 0)) := fun h3 => write_ok hd hbad hf hlen (by omega) (by rw [hmq, ← hqu, ← hus]; exact h3)
            have HQ := Lib.hid hq
            clear hmq hf hbad hlen hmany hq hqu hus
            have hdp : decide (f.now.length < p) = false := by simp; omega
            have hdm : decide ((16777216 : Int) - (p : Int) < (b.length : Int)) = false := by simp; omega
            have hmax : (if (f.now.length : Int) < (p : Int) + (b.length : Int) then (p : Int) + (b.length : Int) else (f.now.length : Int)) = (q : Int) := by rw [HQ.out]; split <;> omega
            go_enter Tryz.func27, Tryz.ntmps27
            go_wp2_with fail
            refine HB.out.mono ?_
            rintro e w1 ⟨rfl, h1, g1⟩
            have H1 := Lib.hid h1
            have G1 := Lib.hid g1
            have Hfo := Lib.hid (find_ok h1 hn hr hf1)
            clear h1 hf1 g1
            rw [hd]
            go_wp2_with fail
            refine Hfo.out.mono ?_
            rintro e w2 ⟨rfl, g2⟩
            have h2 := H1.out.ext g2
            have H2 := Lib.hid h2
            have G2 := Lib.hid g2
            have hfr := h2.file f Hm.out
            have HFR := Lib.hid hfr
            have hsm := hfr.small
            obtain ⟨A, cp, hv⟩ := hfr.now.rd.form
            have hfc : w2.cell? ⟨c.fb f.name, 0, none⟩ = some (.slice A f.now.length cp) := by rw [← hv]; exact hfr.box.cell 0
            have HV := Lib.hid hv
            clear hfr hv hd hr g2 h2
            go_wp2_with fail
            go_quiet ((go_at_call 75; exact Calls.quiet_of_same (sectors_q _ _ (by omega) (by omega))))
            have hqt : S.begin.quota ≤ 1048576 := H2.out.lim.1
            have hcd : w2.cell? ⟨d, 2, none⟩ = some (.int .i64 S.begin.quota) := H2.out.self.cell 2
            have hub : S.begin.used ≤ 1000000 * 262144 := by
              have := usedBut_le (fs := S.begin.fs) (fun g hg => (H2.out.file g hg).small.2.1) (fun _ => false)
              rw [usedBut_none _ (fun _ => rfl)] at this
              have h2 : S.begin.fs.length ≤ 1000000 := by rw [begin_fs]; exact hfl
              exact Nat.le_trans this (Nat.mul_le_mul_right _ h2)
            have HU := Lib.hid (fun (wx : World) (hx : w2.grownBy wx none) => used_any (H2.out.ext hx) (by rw [begin_fs]; exact hfl))
            have hsz2 : sectors q ≤ 20000000 := by unfold sectors; omega
            have hwr : IntKind.i64.wrap ((S.begin.used : Int) + ((sectors q : Int) - (sectors f.now.length : Int))) = (S.begin.used : Int) + ((sectors q : Int) - (sectors f.now.length : Int)) := by rw [IntWalk.i64_in _ (by omega)]
            go_upto_region 13 with fail
            go_cut [77] (fun s wx => s = .bool (decide (0 < (sectors q : Int) - sectors f.now.length ∧ (S.begin.quota : Int) < S.begin.used + ((sectors q : Int) - sectors f.now.length))) ∧ w2.grownBy wx none)
            case first =>
              by_cases hmore : sectors f.now.length < sectors q
              · have hm1 : decide (sectors f.now.length < sectors q) = true := by simpa using hmore
                go_region_held3 (fun w' => w'.cell? ⟨d, 2, none⟩ = some (.int .i64 S.begin.quota))
                  (first | exact hcd4 | go_keep)
                  (first | (go_at_call 76; refine (HU.out _ (gr_none (gr_drewN _ _ none) (gr_drew _ none))).mono ?_; rintro e w4 ⟨rfl, g4⟩; have hcd4 : w4.cell? ⟨d, 2, none⟩ = some (.int .i64 S.begin.quota) := (H2.out.self.ext (gr_none (gr_none (gr_drewN _ _ none) (gr_drew _ none)) g4)).cell 2))
                all_goals
                  go_wp2_with fail
                  go_meet
                  exact ⟨congrArg Value.bool (by rw [Bool.eq_iff_iff]; simp; omega), gr_none (gr_none (gr_drewN _ _ none) (gr_drew _ none)) g4⟩
              · have hm1 : decide (sectors f.now.length < sectors q) = false := by simpa using hmore
                go_quiet (fail)
                go_wp2_with fail
                go_meet
                exact ⟨congrArg Value.bool (by rw [Bool.eq_iff_iff]; simp; omega), gr_none (gr_drewN _ _ none) (gr_drewN _ _ none)⟩
            case rest =>
              obtain ⟨rfl, gx⟩ := hcut
              have GX := Lib.hid gx
              clear gx
              by_cases hfull : 0 < (sectors q : Int) - sectors f.now.length ∧ (S.begin.quota : Int) < S.begin.used + ((sectors q : Int) - sectors f.now.length)
              · have HF := Lib.hid (hW1.out hfull)
                have hdec := decide_eq_true hfull
                clear hfull
                rw [hdec]
                go_wp2
                go_ret
                rw [HF.out]
                exact ⟨rfl, dout_begin H.out H1.out G1.out (gr_none G2.out GX.out)⟩
              · have HF := Lib.hid (hW2.out hfull)
                have hdec := decide_eq_false hfull
                clear hfull
                rw [hdec]
                have h3 := H2.out.ext GX.out
                have H3 := Lib.hid h3
                have hfr3 := h3.file f Hm.out
                have HFR3 := Lib.hid hfr3
                have ho3 : OwnB wc B (.slice A f.now.length cp) f.now := by rw [← HV.out]; exact hfr3.now
                have hfc3 : wc.cell? ⟨c.fb f.name, 0, none⟩ = some (.slice A f.now.length cp) := by rw [← HV.out]; exact hfr3.box.cell 0
                obtain ⟨v5, w5, hrun, ho5, hx5⟩ := run_appZ wc.drew 40 B (.slice A f.now.length cp) f.now ho3 (q - f.now.length) (by omega) h3.base
                have hqm : ((q - f.now.length : Nat) : Int) = (q : Int) - (f.now.length : Int) := by omega
                rw [hqm] at hrun
                obtain ⟨A5, c5, rfl⟩ := ho5.rd.form
                have hx5' : Ext0 wc w5 (c.nv f.name) (.slice A5 (f.now ++ List.replicate (q - f.now.length) 0).length c5) := by
                  rw [HV.out]
                  obtain ⟨r, g, hr, hk⟩ := hx5
                  exact ⟨r, gr_trans (gr_drew wc r) g (.inl rfl), hr, hk⟩
                obtain ⟨hk5, hf5⟩ : w5.cell? ⟨c.fb f.name, 0, none⟩ = some (.slice A f.now.length cp) ∧ w5.frozen? ⟨c.fb f.name, 0, none⟩ = false := by
                  obtain ⟨r, g, hr, _⟩ := hx5'
                  have hrf : r ≠ some (c.fb f.name) := fun e => by
                    have h1 := (H3.out.tag f Hm.out).now _ (hr _ e)
                    rw [(H3.out.tag f Hm.out).file] at h1
                    simp at h1
                  have hb := HFR3.out.box.gr g hrf
                  exact ⟨by rw [← HV.out]; exact hb.cell 0, hb.frozen 0⟩
                have hlen5 : (f.now ++ List.replicate (q - f.now.length) (0 : UInt8)).length = q := by simp; omega
                rw [hlen5] at hrun hx5' ho5
                have HX5 := Lib.hid hx5'
                have HO5 := Lib.hid ho5
                have HLN := Lib.hid hlen5
                clear h3 hfr3 ho3 hx5 hx5' ho5 hqm hlen5 hub hss hsz2 hwr
                have hsum : IntKind.i64.wrap ((q : Int) - (f.now.length : Int)) = (q : Int) - (f.now.length : Int) := by rw [IntWalk.i64_in _ (by omega)]
                have HRUN := Lib.hid hrun
                clear hrun
                go_wp2_with fail
                go_region_law (refine step_appZ (.tmp 82) (.tmp 89) rfl rfl rfl HRUN.out ?_)
                all_goals
                  obtain ⟨o6, h6, ch6⟩ := H3.out.extNow Hm.out HX5.out HO5.out (by rw [HLN.out]; omega)
                  have hm6 : Fi.mk f.name (f.now ++ List.replicate (q - f.now.length) 0) f.lasts ∈ setF S.begin.fs f.name (fun g => { g with now := f.now ++ List.replicate (q - f.now.length) 0 }) := List.mem_map.2 ⟨f, Hm.out, if_pos rfl⟩
                  have hfr6 := h6.file _ hm6
                  have ho6 : OwnB (w5.setCell ⟨c.fb f.name, 0, none⟩ (.slice A5 q c5)) B (.slice A5 q c5) (f.now ++ List.replicate (q - f.now.length) 0) := by
                    have this : OwnB (w5.setCell ⟨c.fb f.name, 0, none⟩ (.slice A5 q c5)) B (if f.name = f.name then Value.slice A5 q c5 else c.nv f.name) (f.now ++ List.replicate (q - f.now.length) 0) := hfr6.now
                    rw [if_pos rfl] at this
                    exact this
                  have C6 := Lib.hid ((((Ch.of_gr G1.out (fun k e => by cases e; rw [H.out.tD]; simp)).trans (Ch.ext (gr_none G2.out GX.out))).trans ch6 : Ch o w o6 _))
                  have hbv6 : RdB (w5.setCell ⟨c.fb f.name, 0, none⟩ (.slice A5 q c5)) (.slice Ab b.length cb) b := C6.out.rd HBV.out HBB.out
                  obtain ⟨hcap6, hmx6⟩ : q ≤ c5 ∧ c5 ≤ maxLen := by
                    obtain ⟨_, _, _, _, _, e, hq, hm, _⟩ := ho6
                    simp only [Value.slice.injEq] at e
                    obtain ⟨_, e2, rfl⟩ := e
                    exact ⟨by omega, hm⟩
                  unfold maxLen at hmx6
                  have hpq : (p : Int) ≤ (q : Int) := by omega
                  have hql2 : (f.now ++ List.replicate (q - f.now.length) (0 : UInt8)).length = q := HLN.out
                  have hpb : p + b.length ≤ (f.now ++ List.replicate (q - f.now.length) (0 : UInt8)).length := by rw [hql2]; have := HQ.out; omega
                  have H6 := Lib.hid h6
                  have HM6 := Lib.hid hm6
                  have HO6 := Lib.hid ho6
                  have HBV6 := Lib.hid hbv6
                  have HPB := Lib.hid hpb
                  have HQ2 := Lib.hid hql2.symm
                  clear h6 ch6 hm6 hfr6 ho6 hbv6 hf5 hql2 hpb hsum
                  go_wp2_with (refine wp_copyB rfl (.tmp 98) (.tmp 99) rfl (p := p) (cc := c5) HQ2.out rfl rfl rfl HO6.out HPB.out rfl HBV6.out ?_; intro w7 ho7 hx7)
                  have hx7' : Ext0 (w5.setCell ⟨c.fb f.name, 0, none⟩ (.slice A5 q c5)) w7 (if f.name = f.name then Value.slice A5 q c5 else c.nv f.name) (if f.name = f.name then Value.slice A5 q c5 else c.nv f.name) := by rw [if_pos rfl]; exact hx7
                  have ho7' : OwnB w7 B (if f.name = f.name then Value.slice A5 q c5 else c.nv f.name) (over (f.now ++ List.replicate (q - f.now.length) 0) p b) := by rw [if_pos rfl]; exact ho7
                  obtain ⟨o7, c7, h7, ch7, hlb7, htl7⟩ := H6.out.inNow HM6.out hx7' ho7' (by rw [over_len HPB.out, ← HQ2.out]; omega)
                  have H7 := Lib.hid h7
                  have C7 := Lib.hid (C6.out.trans ch7)
                  have HT7 := Lib.hid h7.tL
                  have HLB := Lib.hid hlb7
                  have hlm7 : Hid (LM w7 c7.lb S.begin.nl S.begin.loose) := h7.lm
                  have hnl7 : S.begin.nl = S.nl := (begin_loose S).2.1
                  have HNL := Lib.hid hnl7
                  have hdn : some c7.lb ≠ some d := fun e => by have := h7.tL; rw [Option.some.inj e, h7.tD] at this; cases this
                  have hns : f.name.length ≤ maxLen := by unfold maxLen; omega
                  clear h7 ch7 hx7' ho7' hlb7 htl7 ho7 hx7 hnl7
                  go_loopw [14, 103] (fun _ i wr => ∃ k : Nat, k ≤ b.length ∧ i = .int .i64 k ∧ LM wr c7.lb (S.begin.nl + k) (fun s j => (s == f.name && hits p k j) || S.begin.loose s j) ∧ w7.grownBy wr (some c7.lb)) (fun _ i _ => b.length - (intOf i).toNat)
                  case atStart => exact ⟨0, by omega, rfl, hlm7.out.congr (fun s k _ => by rw [hits_zero]; simp), gr_refl _ _⟩
                  case round =>
                    obtain ⟨k, hk, rfl, hlm, hgr⟩ := hrel
                    by_cases hlt : k < b.length
                    · have hcd : wr.cell? ⟨d, 1, none⟩ = some (.map (some c7.lb)) := (H7.out.self.gr hgr hdn).cell 1
                      have hwf : (Lit.int .i64 (((p : Int) + (k : Int)) / 64)).wf = true := WalkArith.wf_i64 (by omega)
                      have hok : okK f.name (((p : Int) + (k : Int)) / 64) := ⟨hns, hwf⟩
                      have HOK := Lib.hid hok
                      have hroom : S.begin.nl + k < maxLen := by rw [HNL.out]; unfold maxLen; omega
                      have HR := Lib.hid hroom
                      have HGR := Lib.hid hgr
                      clear hwf hok hgr hroom
                      go_wp2_with (at_mapUpdate; refine wp_lm_put rfl _ _ _ rfl hlm rfl HR.out HOK.out rfl rfl ?_; intro w8 hlm8 g8)
                      have hlm9 : LM w8 c7.lb (S.begin.nl + (k + 1)) (fun s j => (s == f.name && hits p (k + 1) j) || S.begin.loose s j) := by
                        rw [← Nat.add_assoc]
                        refine hlm8.congr fun s j _ => ?_
                        rw [hits_succ]
                        have e : (((p + k) / 64 : Nat) : Int) = ((p : Int) + (k : Int)) / 64 := by omega
                        rw [e]
                        have e2 : (j == ((p : Int) + (k : Int)) / 64) = ((((p : Int) + (k : Int)) / 64) == j) := by rw [Bool.eq_iff_iff, beq_iff_eq, beq_iff_eq]; exact eq_comm
                        rw [e2]
                        cases (s == f.name) <;> cases hits p k j <;> simp
                      have HLM9 := Lib.hid hlm9
                      have HG8 := Lib.hid (gr_trans HGR.out g8 (.inl rfl))
                      clear hlm8 hlm9 g8 hlm
                      go_roundw
                      case rel => exact ⟨k + 1, by omega, by go_num, HLM9.out, HG8.out⟩
                      case measure => simp [intOf]; omega
                    · obtain rfl : k = b.length := by omega
                      have h9 := H7.out.loose hgr hlm
                      have H9 := Lib.hid h9
                      have C9 : Hid (Ch o7 w7 o7 wr) := Ch.of_gr hgr (fun k e => by cases e; rw [HT7.out]; simp)
                      clear h9 hlm hgr
                      go_wp2
                      go_ret
                      rw [HF.out]
                      have hL2 : over (f.now ++ List.replicate (q - f.now.length) 0) p b = overZ f.now p b := by
                        rw [HQ.out]; exact over_grown (by omega)
                      have e := wrote_eq (L1 := f.now ++ List.replicate (q - f.now.length) 0) H1.out.names Hm.out hL2
                      rw [e]
                      exact ⟨rfl, o7, c7, H9.out, C7.out.trans C9.out⟩
end
end Go.Proofs.YtipankjajdpiiaaGreat

/- The disk's operations where the power stays. -/
namespace Go.Proofs.YtipankjajdpiiaaGreat
open Go.RowKit
set_option maxRecDepth 100000
set_option maxHeartbeats 400000

/-- the power stays. -/
def Idle (S : Dk) : Prop := S.armed = 0 ∧ S.dead = false
theorem Idle.begin {S : Dk} (h : Idle S) : S.begin = S := begin_idle S h.1
theorem find_setF (fs : List Fi) (n s : List UInt8) {g : Fi → Fi} (hg : ∀ f, (g f).name = f.name) : (setF fs n g).find? (fun f => f.name == s) = (fs.find? fun f => f.name == s).map fun f => if f.name = n then g f else f := by
  unfold setF
  rw [List.find?_map]
  congr 1
  congr 1
  funext f
  by_cases e : f.name = n
  · simp [e, hg]
  · simp [e]
theorem size_idle {S : Dk} {f : Fi} {n : List UInt8} (hi : Idle S) (hr : rightB n = true) (hf : S.find n = some f) : S.size n = (f.now.length, 0) := by unfold Dk.size; rw [hi.2, hr, hf]; rfl
theorem size_none {S : Dk} {n : List UInt8} (hi : Idle S) (hr : rightB n = true) (hf : S.find n = none) : S.size n = (0, 3) := by unfold Dk.size; rw [hi.2, hr, hf]; rfl
theorem create_idle {S : Dk} {n : List UInt8} (hi : Idle S) (hr : rightB n = true) (hf : S.find n = none) : S.create n = ({ S with fs := S.fs ++ [⟨n, [], []⟩] }, 0) := by
  unfold Dk.create; rw [hi.begin, if_neg (by rw [hi.2]; simp), if_neg (by rw [hr]; simp), hf]; rfl
theorem read_idle {S : Dk} {f : Fi} {n : List UInt8} {p k : Nat} (hi : Idle S) (hr : rightB n = true) (hf : S.find n = some f) : S.read n p k = ((f.now.drop p).take k, 0) := by
  unfold Dk.read
  rw [if_neg (by rw [hi.2]; simp), if_neg (by rw [hr]; simp), hf]
  rfl
theorem cut_idle {S : Dk} {f : Fi} {n : List UInt8} {k : Nat} (hi : Idle S) (hr : rightB n = true) (hf : S.find n = some f) (hk : k ≤ f.now.length) : S.cut n k = (S.cutTo n k, 0) := by
  unfold Dk.cut
  rw [hi.begin, if_neg (by rw [hi.2]; simp), if_neg (by rw [hr]; simp), hf]
  show (if (f.now.length : Int) < (k : Int) then (S, 1) else (S.cutTo n (k : Int).toNat, 0)) = _
  rw [if_neg (by omega), Int.toNat_natCast]
theorem sync_idle {S : Dk} {f : Fi} {n : List UInt8} (hi : Idle S) (hr : rightB n = true) (hf : S.find n = some f) : S.sync n = (S.synced n, 0) := by
  unfold Dk.sync; rw [hi.begin, hi.2, hr, hf]; rfl
theorem write_idle {S : Dk} {f : Fi} {n : List UInt8} {p : Nat} {b : List UInt8} (hi : Idle S) (hr : rightB n = true) (hf : S.find n = some f) (h1 : p ≤ f.now.length) (h2 : p + b.length ≤ 16777216)
    (h3 : ¬ (0 < moreS f p b ∧ (S.quota : Int) < S.used + moreS f p b)) : S.write n p b = (S.wrote n p b, 0) := by
  have := write_ok (S := S) (n := n) (p := p) (b := b) (f := f) (by rw [hi.begin]; exact hi.2) (by rw [hr]; simp) hf (by omega) (by omega) h3
  rw [hi.begin] at this
  exact this
theorem find_cutTo (S : Dk) (n : List UInt8) (k : Nat) (s : List UInt8) : (S.cutTo n k).find s = (S.find s).map fun f => if f.name = n then { f with now := f.now.take k, lasts := f.lasts.take k } else f := find_setF _ _ _ fun _ => rfl
theorem find_synced (S : Dk) (n s : List UInt8) : (S.synced n).find s = (S.find s).map fun f => if f.name = n then { f with lasts := f.now } else f := find_setF _ _ _ fun _ => rfl
theorem find_wrote (S : Dk) (n : List UInt8) (p : Nat) (b s : List UInt8) : (S.wrote n p b).find s = (S.find s).map fun f => if f.name = n then { f with now := overZ f.now p b } else f := find_setF _ _ _ fun _ => rfl
theorem find_added (S : Dk) (n : List UInt8) (hf : S.find n = none) : ({ S with fs := S.fs ++ [⟨n, [], []⟩] } : Dk).find n = some ⟨n, [], []⟩ := by
  unfold Dk.find at hf ⊢
  simp [List.find?_append, hf]
end Go.Proofs.YtipankjajdpiiaaGreat
