/-
  The journal laws' anchor: works.
-/
import Derived.Test.YtfbbbbekialpnaaJ5
namespace Go.Proofs.Ytfbbbbekialpnaa
open Go.RowKit
set_option maxRecDepth 100000
set_option maxHeartbeats 400000

theorem find_addD (S : Dk) (n : Nat) (r : Rc) {f : Fi} (hf : S.find jn = some f) : (addD S n r).find jn = some { f with now := overZ f.now (64 * n) (secB (n + 1) r), lasts := overZ f.now (64 * n) (secB (n + 1) r) } := by
  have hn : f.name = jn := (find_some hf).2
  unfold addD
  rw [find_synced, find_wrote, hf]
  simp [hn]
theorem find_jOpen {S : Dk} {f : Fi} (hf : S.find jn = some f) : ∃ f', (jOpen S).find jn = some f' ∧ f'.now = f.now.take (64 * (readJ f.now).length) := by
  have hn : f.name = jn := (find_some hf).2
  have e1 : jOpen1 S = S := by unfold jOpen1; rw [hf]
  have e2 : jOpen S = (jOpen2 S f).synced jn := by unfold jOpen; rw [e1, hf]
  have hle := readJ_le f.now
  rw [e2, find_synced]
  unfold jOpen2
  split
  · rw [find_cutTo, hf]
    exact ⟨_, by simp [hn]; rfl, rfl⟩
  · rw [hf]
    refine ⟨_, by simp [hn]; rfl, ?_⟩
    show f.now = _
    rw [List.take_of_length_le (by omega)]
theorem find_jOpen_none {S : Dk} (hf : S.find jn = none) : (jOpen S).find jn = some ⟨jn, [], []⟩ ∧ (jOpen S).used = S.used ∧ (jOpen S).quota = S.quota ∧ (jOpen S).nl = S.nl ∧ (jOpen S).fs.length = S.fs.length + 1 := by
  have e1 : jOpen1 S = { S with fs := S.fs ++ [⟨jn, [], []⟩] } := by unfold jOpen1; rw [hf]
  have hf1 := find_added S jn hf
  have e2 : jOpen S = ({ S with fs := S.fs ++ [⟨jn, [], []⟩] } : Dk).synced jn := by
    unfold jOpen
    rw [e1, hf1]
    rfl
  rw [e2, find_synced, hf1]
  refine ⟨by simp, ?_, rfl, rfl, by simp [Dk.synced, setF]⟩
  unfold Dk.used Dk.synced setF
  rw [List.map_map, List.map_append, List.sum_append]
  have : (List.map ((fun f : Fi => sectors f.now.length) ∘ fun f => if f.name = jn then { f with lasts := f.now } else f) S.fs) = S.fs.map fun f => sectors f.now.length := List.map_congr_left fun f _ => by
    show sectors (if f.name = jn then { f with lasts := f.now } else f : Fi).now.length = _
    split <;> rfl
  rw [this]
  rfl
def w1R : Rc := ⟨1, 2, 3⟩
theorem newD_find (q : Nat) : (newD q).find jn = none := rfl
theorem newD_idle (q : Nat) : Idle (newD q) := ⟨rfl, rfl⟩
theorem jRecs_w : jRecs (addD (jOpen (newD 10)) 0 w1R) = [w1R] := by
  have h1 := find_addD (jOpen (newD 10)) 0 w1R (find_jOpen_none (newD_find 10)).1
  unfold jRecs
  rw [h1]
  show readJ (overZ [] (64 * 0) (secB 1 w1R)) = _
  have e : overZ [] (64 * 0) (secB 1 w1R) = secs 0 [w1R] := by simp [overZ, secs]
  rw [e]
  exact readJ_secs (fun r hr => by rw [List.mem_singleton.1 hr]; decide) (by simp)
set_option maxHeartbeats 2000000 in
theorem works_any (w : World) : Calls Try.prog 29 #[] w fun e w' => e = .returned (.bool true) ∧ w.grownBy w' none := by
  obtain ⟨hf1, hu1, hq1, hn1, hl1⟩ := find_jOpen_none (newD_find 10)
  have hnew := new_ok 10 w (by omega)
  have HNEW := Lib.hid hnew
  have HOP : Hid (∀ (wx : World) (d : Nat) (o : Own1) (c : Con), DI wx w.heap.size o d (newD 10) c → Calls Try.prog 30 #[.pointer (some ⟨d, 0, none⟩)] wx (OpenOut o wx w.heap.size d (newD 10))) := fun wx d o c h => open_none h (newD_idle 10) (newD_find 10) (by simp [newD])
  have HAD : Hid (∀ (wx : World) (d jb : Nat) (o : Own1) (c : Con) (v : Value), DI wx w.heap.size o d (jOpen (newD 10)) c → JR wx w.heap.size o jb d v [] → Calls Try.prog 33 #[.pointer (some ⟨jb, 0, none⟩), .agg w1R.cells] wx (AddOut wx w.heap.size d jb (addD (jOpen (newD 10)) 0 w1R) [w1R])) := fun wx d jb o c v h hj =>
    add_idle h hj (jOpen_idle (newD_idle 10)) hf1 w1R (by decide) (by simp) (by simp) (by simp)
      (by
        rw [hu1, hq1]
        unfold moreS
        rw [secB_len]
        intro h
        have h2 := h.2
        have e : (newD 10).used = 0 := rfl
        have e2 : (newD 10).quota = 10 := rfl
        rw [e, e2] at h2
        simp [sectors] at h2) (by rw [hl1]; simp [newD]) (by rw [hn1]; simp [newD])
  have HO2 : Hid (∀ (wx : World) (d : Nat) (o : Own1) (c : Con), DI wx w.heap.size o d (addD (jOpen (newD 10)) 0 w1R) c → Calls Try.prog 30 #[.pointer (some ⟨d, 0, none⟩)] wx (OpenOut o wx w.heap.size d (addD (jOpen (newD 10)) 0 w1R))) := fun wx d o c h => open_some h (jOpen_idle (newD_idle 10)) (find_addD _ 0 w1R hf1)
  clear hf1 hu1 hq1 hn1 hl1 hnew
  go_enter Try.func29, Try.ntmps29
  go_wp2_with fail
  refine HNEW.out.mono ?_
  rintro e w1 ⟨d, o, c, rfl, h1, g1⟩
  have G1 := Lib.hid g1
  have HT1 : Hid (∀ i, o i ≠ none → w.heap.size ≤ i) := fun i hi => (h1.inb i hi).1
  have H1 := Lib.hid h1
  clear h1 g1
  go_wp2_with fail
  refine (HOP.out _ _ _ _ H1.out).mono ?_
  rintro e w2 ⟨jb, v2, o2, c2, rfl, h2, ch2, hj2⟩
  have G2 := Lib.hid (ch2.gr G1.out HT1.out)
  have HJ2 : Hid (JR w2 w.heap.size o2 jb d v2 []) := ⟨hj2.box, Own.mono hj2.own G1.out.size, hj2.free, Nat.le_trans G1.out.size hj2.jB, hj2.sep⟩
  have H2 := Lib.hid h2
  clear h2 ch2 hj2
  go_wp2_with fail
  refine (HAD.out _ _ _ _ _ _ H2.out HJ2.out).mono ?_
  rintro e w3 ⟨v3, o3, c3, rfl, h3, hj3, hg3⟩
  have G3 := Lib.hid (hg3 w (Nat.le_refl _) G2.out)
  have HT3 : Hid (∀ i, o3 i ≠ none → w.heap.size ≤ i) := fun i hi => (h3.inb i hi).1
  have H3 := Lib.hid h3
  clear h3 hj3 hg3
  go_wp2_with fail
  refine (HO2.out _ _ _ _ H3.out).mono ?_
  rintro e w4 ⟨jb4, v4, o4, c4, rfl, h4, ch4, hj4⟩
  have G4 := Lib.hid (ch4.gr G3.out HT3.out)
  rw [jRecs_w] at hj4
  have HR := Lib.hid (recs_any hj4 (by simp))
  clear h4 ch4 hj4
  go_wp2_with fail
  refine HR.out.mono ?_
  rintro e w5 ⟨⟨v5, rfl, o5⟩, g5⟩
  have G5 := Lib.hid (gr_none G4.out g5)
  obtain ⟨A5, c5, rfl⟩ := o5.rd.form
  obtain ⟨g, off, hA, hlc, hmx, hcell⟩ := o5.rd.at_
  obtain rfl := hA (by simp)
  have hc1 : w5.cell? ⟨g, off + 1, none⟩ = some (.int .u32 2) := hcell 0 (by simp) 1 (by omega)
  clear hcell hA o5 g5
  simp only [List.length_cons, List.length_nil] at hlc ⊢
  go_wp2
  go_ret
  exact ⟨rfl, G5.out⟩
end Go.Proofs.Ytfbbbbekialpnaa
