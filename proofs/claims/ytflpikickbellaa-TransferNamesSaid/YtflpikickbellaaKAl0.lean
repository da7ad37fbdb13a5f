/- Layer 32: the chapter's examples: plain; SamePairs; cells. -/
import Derived.Test.YtflpikickbellaaKOf
import Derived.Test.YtflpikickbellaaKPq
namespace Go.Proofs.Ytflpikickbellaa
open Go.RowKit Go.Shelf Go.Sort
set_option maxRecDepth 100000

def alC (k : Int) : List Stc := [⟨k, false, 2, 0⟩, ⟨2, false, 0, 0⟩]
theorem al_of (k : Int) (f : Int × Int) (h1 : allE (alC k) = 0) (h2 : (alC k).any kindB = false) (h3 : sumU (alC k) = 2) (h4 : runO (alC k) 2 = ⟨2, [0, 0], [f]⟩) : ofE (alC k) = (⟨[0, 0], [f]⟩, 0) := by
  have e : (alC k).length = 2 := rfl
  have hs : sortP [f] = [f] := by unfold sortP; simp
  have hf : farB [0, 0] = false := by decide
  unfold ofE
  rw [e, h4, if_neg (by rw [h1]; simp), if_neg (by rw [h2]; simp), if_neg (by rw [h3]; omega), hf, hs]
  rfl
theorem al_of3 : ofE (alC 3) = (⟨[0, 0], [(0, 1)]⟩, 0) := al_of 3 (0, 1) (by kernel_rfl) (by kernel_rfl) (by kernel_rfl) (by kernel_rfl)
theorem al_of4 : ofE (alC 4) = (⟨[0, 0], [(1, 0)]⟩, 0) := al_of 4 (1, 0) (by kernel_rfl) (by kernel_rfl) (by kernel_rfl) (by kernel_rfl)
theorem al_plan : plE ⟨[0, 0], [(0, 1)]⟩ = ([xferF 1, rackI (-1), xferB 1 0, rackI 0], 0) := by kernel_rfl
theorem al_ord : ordE ⟨[0, 0], [(1, 0)]⟩ = ([1, 0], 0) := by kernel_rfl
end Go.Proofs.Ytflpikickbellaa
