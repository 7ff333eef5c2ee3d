/-
  law11: begun; the anchor.
-/
import Derived.Test.YtkfokgjpeaibpaaSt3
import Derived.Lib.Builder
import Derived.Test.YtkfokgjpeaibpaaPo4
import Derived.Test.YtkfokgjpeaibpaaGg
namespace Go.Proofs.Ytkfokgjpeaibpaa
open Go.RowKit Go.Maps
set_option maxRecDepth 100000
set_option maxHeartbeats 400000

def sn : List UInt8 := [115]
theorem ok_sn0 : okK sn 0 := ⟨by simp [sn]; unfold maxLen; omega, WalkArith.wf_i64 (by omega)⟩
def sS : Dk := ((newD 65536).create sn).1
theorem sS_create : ((newD 65536).create sn).2 = 0 := by decide
theorem sS_pgs : sS.pgs sn = (0, 0) := by decide
set_option maxHeartbeats 4000000 in
theorem begun_any (w : World) (fr size : Nat) (hf1 : 1 ≤ fr) (hf2 : fr ≤ 4096) (h1 : 1 ≤ size) (h2 : size ≤ 240) : Calls Try.prog 8 #[.int .i64 fr, .int .i64 size] w fun e w' => ∃ d p g mb sb o c,
    e = .returned (.tuple #[.pointer (some ⟨d, 0, none⟩), .pointer (some ⟨p, 0, none⟩), .pointer (some ⟨sb, 0, none⟩)]) ∧ DI w' w.heap.size o d sS c ∧ PoR w' w.heap.size o d p g mb (pl0 fr) 0 ∧ StR w' w.heap.size p sb sn size ∧ (sb ≠ p ∧ sb ≠ g ∧ sb ≠ mb ∧ o sb = none) ∧ w.grownBy w' none := by
  have HNEW := Lib.hid (new_ok 65536 w (by omega))
  have HF := Lib.hid (And.intro hf1 hf2)
  have HSZ := Lib.hid (And.intro h1 h2)
  go_enter Try.func8, Try.ntmps8
  go_wp2_with fail
  refine HNEW.out.mono ?_
  rintro e w1 ⟨d, o, c, rfl, h1, g1⟩
  have HPN := Lib.hid (ponew_any h1 fr hf1 hf2)
  have H1 := Lib.hid h1
  have G1 := Lib.hid g1
  clear h1 g1 HNEW
  go_wp2_with fail
  refine HPN.out.mono ?_
  rintro e w2 ⟨p, g, mb, rfl, hp2, g2⟩
  have HP2 := Lib.hid hp2
  have H2 := Lib.hid (H1.out.ext g2)
  have G2 := Lib.hid (gr_none G1.out g2)
  clear hp2 g2 HPN H1 G1
  have hcr := pocreate_any H2.out HP2.out (n := sn) (by simp [sn]) (by simp [newD])
  rw [sS_create] at hcr
  have HCR := Lib.hid hcr
  clear hcr
  go_wp2_with fail
  refine HCR.out.mono ?_
  rintro e w4 ⟨rfl, o4, c4, h4, ch4, hp4⟩
  have H4 : Hid (DI w4 w.heap.size o4 d sS c4) := h4
  have HP4 := Lib.hid hp4
  have G4 : Hid (w.grownBy w4 none) := ch4.gr G2.out fun i hi => (H2.out.inb i hi).1
  have HSO := Lib.hid (sopen_any H4.out HP4.out (n := sn) (size := size) (by simp [sn]) (by rw [sS_pgs]) HSZ.out.1 HSZ.out.2)
  clear h4 hp4 ch4 HCR
  go_wp2_with fail
  refine HSO.out.mono ?_
  rintro e w5 ⟨sb, rfl, hsz, hs5, g5⟩
  have HS5 := Lib.hid hs5
  have G5 := Lib.hid g5
  have HZ := Lib.hid hsz
  clear hs5 g5 hsz
  go_wp2_with fail
  go_ret3
  have hpl := HP4.out.self.lt
  have hgl := HP4.out.fr.lt
  have hml := HP4.out.wh.lt
  have hzz := HZ.out
  refine ⟨d, p, g, mb, sb, o4, c4, rfl, H4.out.ext G5.out, HP4.out.ext G5.out, ⟨HS5.out.box, Nat.le_trans G4.out.size HS5.out.sB, HS5.out.lim⟩, ⟨by omega, by omega, by omega, ?_⟩, gr_none G4.out G5.out⟩
  cases e : o4 sb with
  | none => rfl
  | some t => exact absurd (H4.out.inb sb (by rw [e]; simp)).2 (by omega)
def skP (v : Value) : Pl := (((pl0 2).filled 0 (frN sn 0) ok_sn0).noted).put 0 (frW sn 0 [1, 2] v)
theorem skP_fr (v : Value) : (skP v).fr = [frW sn 0 [1, 2] v, fr0] := rfl
theorem skP_wh (v : Value) : (skP v).wh ⟨sn, 0, ok_sn0⟩ = some 0 := by
  show (if (⟨sn, 0, ok_sn0⟩ : PK) = pkey (frN sn 0) ok_sn0 then some 0 else none) = some 0
  exact if_pos rfl
theorem skP_pages (v : Value) : pagesN (skP v).fr sn 0 = 1 := by rw [skP_fr]; rfl
theorem skP_put (v : Value) : (skP v).put 0 { frW sn 0 [1, 2] v with used := true } = skP v := rfl
/-- the anchor's state, seen from an older world. -/
def SkQ (w0 : World) (d p g mb sb : Nat) (v : Value) (w : World) : Prop := ∃ o c, DI w w0.heap.size o d sS c ∧ PoR w w0.heap.size o d p g mb (skP v) 1 ∧ StR w w0.heap.size p sb sn 2 ∧ w0.grownBy w none
section
variable {w0 w w' : World} {d p g mb sb : Nat} {v : Value}
theorem SkQ.ext (h : SkQ w0 d p g mb sb v w) (hg : w.grownBy w' none) : SkQ w0 d p g mb sb v w' := by
  obtain ⟨o, c, h1, h2, h3, h4⟩ := h
  exact ⟨o, c, h1.ext hg, h2.ext hg, h3.ext hg, gr_none h4 hg⟩
theorem SkQ.pages (h : SkQ w0 d p g mb sb v w) : PagesIs w p sn 1 := fun wx hx => by
  obtain ⟨o, c, h1, h2, h3, h4⟩ := h.ext hx
  refine (ppages_any h1 h2 (n := sn) (by simp [sn])).mono ?_
  rintro e w' ⟨g1, ⟨he, rfl⟩ | ⟨-, rfl⟩⟩
  · rw [sS_pgs] at he; exact absurd rfl he
  · rw [sS_pgs]; show _ = Ending.returned (.tuple #[.int .i64 (pagesN (skP v).fr sn 0), _]) ∧ _; rw [skP_pages]; exact ⟨rfl, g1⟩
theorem SkQ.read {X : World → Prop} (h : SkQ w0 d p g mb sb v w) (hx0 : X w) (hX : ∀ w w', X w → Ch (po noO p g mb) w (po noO p g mb) w' → X w') (hsb : sb ≠ p ∧ sb ≠ g ∧ sb ≠ mb) : ReadIs w w0.heap.size p sb 2 sn 0 [1, 2] (fun w => SkQ w0 d p g mb sb v w ∧ X w) := fun wx hx => by
  obtain ⟨o, c, h1, h2, h3, h4⟩ := h.ext hx
  have hr := poread_hit h1 h2 (n := sn) (by simp [sn]) ok_sn0 (by rw [sS_pgs]) (by omega) (by rw [sS_pgs]; show (0 : Int) < pagesN (skP v).fr sn 0; rw [skP_pages]; omega) (i := 0) (by rw [skP_fr]; simp) (skP_wh v)
  refine hr.mono ?_
  rintro e w' ⟨u, rfl, hu, hp', ch'⟩
  have hp2 : PoR w' w0.heap.size o d p g mb (skP v) 1 := hp'
  have hs2 := h3.ch ch' (po_none_mk hsb.1 hsb.2.1 hsb.2.2 rfl)
  exact ⟨u, rfl, hu, ch'.size, hs2, ⟨o, c, h1.pool h2 ch', hp2, hs2, poGr ch' h4 h2.low⟩, hX _ _ (hX _ _ hx0 (Ch.ext hx)) ch'⟩
end
set_option maxHeartbeats 4000000 in
theorem works11_any (w : World) : Calls Try.prog 13 #[] w fun e w' => e = .returned (.bool true) ∧ w.grownBy w' none := by
  have HBG := Lib.hid (begun_any w 2 2 (by omega) (by omega) (by omega) (by omega))
  go_enter Try.func13, Try.ntmps13
  go_wp2_with fail
  refine HBG.out.mono ?_
  rintro e w1 ⟨d, p, g, mb, sb, o, c, rfl, h1, hp1, hs1, hsb, g1⟩
  have HSB := Lib.hid hsb
  have H1 := Lib.hid h1
  have HP1 := Lib.hid hp1
  have HS1 := Lib.hid hs1
  have G1 := Lib.hid g1
  clear hsb h1 hp1 hs1 g1 HBG
  have HB : Hid (OwnB (w1.alloc (.cells #[.int .u8 1, .int .u8 2] 5)) w1.heap.size (.slice (some ⟨w1.heap.size, 0, none⟩) 2 2) [1, 2]) := own_lit w1 w1.heap.size 1 2 2 #[.int .u8 1, .int .u8 2] 5 (0, 0) (.inr (by simp)) rfl (Nat.le_refl _) (by unfold maxLen; omega) (Nat.le_refl _)
  have HAD := Lib.hid (sadd_first (H1.out.ext (gr_alloc w1 (.cells #[.int .u8 1, .int .u8 2] 5) none)) (HP1.out.ext (gr_alloc w1 (.cells #[.int .u8 1, .int .u8 2] 5) none)) (HS1.out.ext (gr_alloc w1 (.cells #[.int .u8 1, .int .u8 2] 5) none)) (by simp [sn]) ok_sn0 sS_pgs (by rfl) rfl (fun _ => rfl) (by omega) HB.out.rd (by rfl) ⟨HSB.out.1, HSB.out.2.1, HSB.out.2.2.1⟩)
  go_wp2_with fail
  refine HAD.out.mono ?_
  rintro e w2 ⟨rfl, v, hp2, ch2⟩
  have HQ2 : Hid (SkQ w d p g mb sb v w2) := by
    have ga := gr_alloc w1 (.cells #[.int .u8 1, .int .u8 2] 5) none
    exact ⟨o, c, (H1.out.ext ga).pool (HP1.out.ext ga) ch2, hp2, (HS1.out.ext ga).ch ch2 (po_none_mk HSB.out.1 HSB.out.2.1 HSB.out.2.2.1 rfl), poGr ch2 (gr_none G1.out ga) HP1.out.low⟩
  have hq := HQ2.out
  obtain ⟨o2, c2, -, -, hs2, -⟩ := hq
  have HGE := Lib.hid (sget_of hs2 (m := 1) (i := 0) (b := [1, 2]) (by omega) (by decide) (by decide) HQ2.out.pages (HQ2.out.read (X := fun _ => True) trivial (fun _ _ _ _ => trivial) ⟨HSB.out.1, HSB.out.2.1, HSB.out.2.2.1⟩) (fun _ _ h hg => ⟨SkQ.ext h.1 hg, h.2⟩))
  clear hp2 ch2 hs2 HAD HB
  go_wp2_with fail
  refine HGE.out.mono ?_
  rintro e w3 ⟨u, rfl, hu, hq3, -⟩
  have HQ3 := Lib.hid hq3
  have HU : Hid (OwnB w3 w2.heap.size u [1, 2]) := hu
  obtain ⟨o3, c3, -, -, hs3, -⟩ := hq3
  have HX : Hid (∀ x x', OwnB x w2.heap.size u [1, 2] → Ch (po noO p g mb) x (po noO p g mb) x' → OwnB x' w2.heap.size u [1, 2]) := fun x x' hx hc => hc.own hx (by omega) fun k hk => by
    obtain ⟨q1, q2⟩ := Own.blk_lt hx (by omega) hk
    obtain ⟨_, _, _, hpp, _, _⟩ := HQ2.out
    have hpl := hpp.self.lt
    have hgl := hpp.fr.lt
    have hml := hpp.wh.lt
    exact po_none_mk (by omega) (by omega) (by omega) rfl
  have HLE := Lib.hid (slen_of hs3 (m := 1) (b := [1, 2]) (by omega) (by decide) HQ3.out.pages (HQ3.out.read (X := fun w => OwnB w w2.heap.size u [1, 2]) HU.out HX.out ⟨HSB.out.1, HSB.out.2.1, HSB.out.2.2.1⟩) (fun _ _ h hg => ⟨SkQ.ext h.1 hg, OwnB.ext h.2 hg⟩))
  obtain ⟨A3, c3', rfl⟩ := RdB.form (Own.rd HU.out)
  clear hu hs3 HGE
  have el : (([1, 2] : List UInt8).drop (0 % (240 / 2) * 2)).take 2 = [1, 2] := by decide
  have en : (1 - 1) * (240 / 2) + ([1, 2] : List UInt8).length / 2 = 1 := by decide
  rw [en] at HLE
  go_wp2_with fail
  refine HLE.out.mono ?_
  rintro e w4 ⟨rfl, hq4, hu4⟩
  have G4 : Hid (w.grownBy w4 none) := by obtain ⟨_, _, _, _, _, hg⟩ := hq4; exact hg
  obtain ⟨g8, o8, hA8, -, -, hc8⟩ := RdB.at_ (l := [1, 2]) (Own.rd hu4)
  obtain rfl := hA8 (by simp)
  have hc : w4.cell? ⟨g8, o8 + 1, none⟩ = some (.int .u8 2) := hc8 1 (by simp)
  clear hq4 HLE hu4 hA8 hc8
  go_wp2
  go_ret
  exact ⟨rfl, G4.out⟩
set_option maxHeartbeats 4000000 in
theorem stnil_any (k : Int) (v : Value) (b : List UInt8) (s : ByteArray) (w : World) (h : RdB w v b) :
    Calls Try.prog 4 #[.int .i64 k, v, .string s] w fun e w' => e = .returned (.bool true) ∧ w.grownBy w' none := by
  obtain ⟨A, c, rfl⟩ := h.form
  clear h
  by_cases h1 : (4096 : Int) < (b.length : Int)
  · go_enter Try.func4, Try.ntmps4
    go_wp2_with (go_at_call 13; refine (works11_any _).mono ?_; rintro e w1 ⟨rfl, g1⟩)
    go_ret
    exact ⟨rfl, g1⟩
  by_cases h2 : (4096 : Int) < (s.size : Int)
  · go_enter Try.func4, Try.ntmps4
    go_wp2_with (go_at_call 13; refine (works11_any _).mono ?_; rintro e w1 ⟨rfl, g1⟩)
    go_ret
    exact ⟨rfl, g1⟩
  go_enter Try.func4, Try.ntmps4
  go_wp2_with fail
  refine (sopen_nil _ _ _).mono ?_
  rintro e w1 ⟨rfl, rfl⟩
  go_wp2_with fail
  refine (slen_nil _).mono ?_
  rintro e w1 ⟨rfl, rfl⟩
  go_wp2_with fail
  refine (sget_nil _ _).mono ?_
  rintro e w1 ⟨rfl, rfl⟩
  go_wp2_with fail
  refine (sadd_nil _ _ _ _).mono ?_
  rintro e w1 ⟨rfl, g1⟩
  go_wp2_with fail
  refine (sset_nil _ _ _ _ _).mono ?_
  rintro e w2 ⟨rfl, g2⟩
  go_wp2_with fail
  refine (works11_any _).mono ?_
  rintro e w3 ⟨rfl, g3⟩
  go_wp2
  go_ret
  exact ⟨rfl, gr_none (gr_none g1 g2) g3⟩
end Go.Proofs.Ytkfokgjpeaibpaa

/- stream over a pool that holds files of pages: what the pool does for it; no record; a page written. -/
namespace Go.Proofs.Ytkfokgjpeaibpaa
open Go.RowKit Go.Maps
set_option maxRecDepth 100000
set_option maxHeartbeats 400000

section
variable {w0 w w' w1 wb : World} {d p sb size m : Nat} {O O0 O' : Own1} {F : List Fz} {L : List (List UInt8)} {n : List UInt8}
theorem PF.far (h : PF w0 d p O F L m w) {r : Option Nat} (g : w.grownBy w' r) (hr : ∀ k, r = some k → O k = none ∧ w0.heap.size ≤ k) : PF w0 d p O F L m w' := by
  obtain ⟨Q, S, h1, h2⟩ := h
  have hc : Ch (fun i => if r = some i then some (0, []) else none) w (fun i => if r = some i then some (0, []) else none) w' := Ch.of_gr g fun k e => by
    show (if r = some k then some (0, []) else none) ≠ none
    rw [if_pos e]; simp
  refine ⟨Q, S, (h1.keep hc (fun i hi => ?_) ?_).1, h2⟩
  · show (if r = some i then some (0, []) else none) = none
    rw [if_neg fun e => hi (hr i e).1]
  · exact gr_trans h1.gr g (.inr fun k e => (hr k e).2)
theorem ch_far (h : Ch O0 wb O w) {r : Option Nat} (g : w.grownBy w' r) (hr : ∀ k, r = some k → wb.heap.size ≤ k) : Ch O0 wb O w' :=
  ⟨g.os.trans h.os, g.tape.trans h.tape, g.output.trans h.output, Nat.le_trans h.size g.size, fun i hi h0 => (g.block i (Nat.lt_of_lt_of_le hi h.size) fun e => by have := hr i e.symm; omega).trans (h.block i hi h0), h.free⟩
theorem fg_one (n : List UInt8) (ps : List (List UInt8)) : Fg [⟨n, ps⟩] n = some ps := by unfold Fg; simp
theorem aErr_one {n : List UInt8} (hr : rightB n = true) (ps : List (List UInt8)) : aErr [⟨n, ps⟩] n = 0 := by unfold aErr; rw [fg_one, hr]; rfl
theorem aPg_one (n : List UInt8) (ps : List (List UInt8)) : aPg [⟨n, ps⟩] n = ps := by unfold aPg; rw [fg_one]; rfl
theorem sn_right : rightB sn = true := by decide
theorem aRead_one {n : List UInt8} (hr : rightB n = true) (ps : List (List UInt8)) {k : Nat} (hk : k < ps.length) : aRead [⟨n, ps⟩] n k = (ps.getD k [], 0) := by
  unfold aRead
  rw [aErr_one hr, aPg_one, if_neg (by simp), if_neg (by omega), if_neg (by omega), Int.toNat_natCast]
theorem aWrite_one {n : List UInt8} (hr : rightB n = true) (ps : List (List UInt8)) {k : Nat} (hk : k ≤ ps.length) {b : List UInt8} (hb : b.length ≤ 240) : aWrite [⟨n, ps⟩] n k b = ([⟨n, setP ps k b⟩], 0) := by
  unfold aWrite
  rw [if_neg (by omega), aErr_one hr, aPg_one, if_neg (by simp), if_neg (by omega), Int.toNat_natCast]
  show (List.map (Fz.put n k b) [⟨n, ps⟩], 0) = _
  rw [List.map_cons, List.map_nil]
  unfold Fz.put
  rw [if_pos rfl]
/-- a stream of records l over the file of a pool. -/
structure ST (w0 : World) (d p sb size : Nat) (O : Own1) (l : List (List UInt8)) (m : Nat) (w : World) : Prop where
  pf : PF w0 d p O [⟨sn, chk (240 / size * size) l.flatten⟩] [] m w
  st : StR w w0.heap.size p sb sn size
  off : O sb = none
  rows : rowsOk size l
def STn (w0 : World) (d p sb size : Nat) (O : Own1) (l : List (List UInt8)) (m : Nat) (w w' : World) : Prop := ∃ O', ST w0 d p sb size O' l m w' ∧ Ch O w O' w'
variable {l : List (List UInt8)}
theorem ST.gr (h : ST w0 d p sb size O l m w) : w0.grownBy w none := h.pf.gr
theorem ST.ext (h : ST w0 d p sb size O l m w) (g : w.grownBy w1 none) : ST w0 d p sb size O l m w1 := ⟨h.pf.ext g, h.st.ext g, h.off, h.rows⟩
theorem STn.ext (h : STn w0 d p sb size O l m w w') (g : w'.grownBy w1 none) : STn w0 d p sb size O l m w w1 := by obtain ⟨O', h1, h2⟩ := h; exact ⟨O', h1.ext g, h2.trans (Ch.ext g)⟩
theorem per_pos {size : Nat} (h1 : 1 ≤ size) (h2 : size ≤ 240) : 0 < 240 / size ∧ 0 < 240 / size * size ∧ 240 / size * size ≤ 240 := by
  have := Nat.div_pos h2 h1
  exact ⟨this, Nat.mul_pos this h1, Nat.div_mul_le_self _ _⟩
theorem chk_pages {size : Nat} (h1 : 1 ≤ size) (h2 : size ≤ 240) (hl : rowsOk size l) : (chk (240 / size * size) l.flatten).length = (l.length + 240 / size - 1) / (240 / size) := by
  obtain ⟨p1, p2, p3⟩ := per_pos h1 h2
  rw [chk_len, flat_rows hl]
  obtain ⟨q, hq⟩ : ∃ q, q = 240 / size := ⟨_, rfl⟩
  rw [← hq] at p1 ⊢
  apply Nat.le_antisymm
  · refine Nat.le_of_lt_succ ((Nat.div_lt_iff_lt_mul (Nat.mul_pos p1 h1)).2 ?_)
    have h3 := Nat.lt_mul_div_succ (l.length + q - 1) p1
    have h4 : l.length ≤ q * ((l.length + q - 1) / q) := by
      rw [Nat.mul_add, Nat.mul_one] at h3; omega
    have h5 := Nat.mul_le_mul_right size h4
    have h6 := Nat.mul_pos p1 h1
    rw [Nat.succ_mul, show (l.length + q - 1) / q * (q * size) = q * ((l.length + q - 1) / q) * size from by rw [← Nat.mul_assoc, Nat.mul_comm ((l.length + q - 1) / q) q]]
    omega
  · rw [Nat.le_div_iff_mul_le (Nat.mul_pos p1 h1), ← Nat.mul_assoc]
    have h3 := Nat.div_mul_le_self (l.length + q - 1) q
    have h5 := Nat.mul_le_mul_right size h3
    have h6 : (l.length + q - 1) * size + size = (l.length + q) * size := by
      have : l.length + q = l.length + q - 1 + 1 := by omega
      rw [this, Nat.add_mul, Nat.one_mul]; rfl
    have h7 : (l.length + q) * size = l.length * size + q * size := Nat.add_mul _ _ _
    omega
theorem ST.pages (h : ST w0 d p sb size O l m w) : PagesIs w p sn (chk (240 / size * size) l.flatten).length := fun wx hx => by
  have := (h.ext hx).pf.pages (n := sn) (by simp [sn])
  rw [aErr_one sn_right, aPg_one] at this
  exact this
theorem ST.of (h : ST w0 d p sb size O l m w) {l' : List (List UInt8)} {m' : Nat} (hl : rowsOk size l') (k : PFn w0 d p O [⟨sn, chk (240 / size * size) l'.flatten⟩] [] m' w w') : STn w0 d p sb size O l' m' w w' := by
  obtain ⟨O', k1, k2⟩ := k
  have hlt := h.st.box.lt
  exact ⟨O', ⟨k1, h.st.ch k2 h.off, k2.free sb hlt h.off, hl⟩, k2⟩
theorem ST.read (h : ST w0 d p sb size O l m w) (hm : m ≤ 9000) {k : Nat} (hk : k < (chk (240 / size * size) l.flatten).length) (hk2 : k ≤ 1000000) : ReadIs w w0.heap.size p sb size sn k ((chk (240 / size * size) l.flatten).getD k []) (STn w0 d p sb size O l (m + 1) w) := fun wx hx => by
  have hs := h.ext hx
  refine (hs.pf.read hm (n := sn) (k := k) (by simp [sn]) (by omega)).mono ?_
  rw [aRead_one sn_right _ hk]
  rintro e w' ⟨v, rfl, ho, O9, p9, c9, -⟩
  have h2 := hs.of hs.rows ⟨O9, p9, c9⟩
  obtain ⟨O', k1, k2⟩ := h2
  exact ⟨v, rfl, ho, k2.size, k1.st, O', k1, (Ch.ext hx).trans k2⟩
end
end Go.Proofs.Ytkfokgjpeaibpaa
