/-
  Rename and Names, seen from an older world; fileOf's words.
-/
import Derived.Test.YthkajgangnmbdaaNn
import Derived.Test.YthkajgangnmbdaaDa
namespace Go.Proofs.Ythkajgangnmbdaa
open Go.RowKit
set_option maxRecDepth 100000
section
variable {w0 w : World} {d : Nat} {o : Own1} {S : Dk}
theorem DA.rename_dead (h : DA w0 d o S w) (n n2 : List UInt8) (hd : S.begin.dead = true) :
    Calls Try.prog 11 #[.pointer (some ⟨d, 0, none⟩), .string ⟨n.toArray⟩, .string ⟨n2.toArray⟩] w fun e w' => e = .returned (.int .i64 6) ∧ DP w0 d o S.begin w w' := by
  obtain ⟨c, h1⟩ := h.di
  exact (Go.Proofs.Ythkajgangnmbdaa.rename_dead h1 n n2 hd).mono fun _ _ ⟨e, k⟩ => ⟨e, h.out k⟩
theorem DA.rename_ok (h : DA w0 d o S w) {f : Fi} {n2 : List UInt8} (hd : S.begin.dead = false) (hr : rightB f.name = true) (hr2 : rightB n2 = true) (hf : S.find f.name = some f) (hne : ¬ f.name = n2) (hl : ∀ s k, S.loose s k = false) (hfl : S.fs.length ≤ 1000000) :
    Calls Try.prog 11 #[.pointer (some ⟨d, 0, none⟩), .string ⟨f.name.toArray⟩, .string ⟨n2.toArray⟩] w fun e w' => e = .returned (.int .i64 0) ∧ DP w0 d o (S.begin.renamed f n2) w w' := by
  obtain ⟨c, h1⟩ := h.di
  exact (Go.Proofs.Ythkajgangnmbdaa.rename_ok h1 hd hr hr2 hf hne hl hfl).mono fun _ _ ⟨e, k⟩ => ⟨e, h.out k⟩
end
end Go.Proofs.Ythkajgangnmbdaa
