/- The cells of a list of ints. -/
import Derived.Test.YtodjkifcbgmckaaOwn
import Derived.Test.YtodjkifcbgmckaaVal2
namespace Go.Proofs.Ytodjkifcbgmckaa
open Go.RowKit Go.Shelf
set_option maxRecDepth 100000

theorem intV_app (a b : List Int) : intV (a ++ b) = intV a ++ intV b := by simp [intV]
theorem intV_len (a : List Int) : (intV a).length = a.length := by simp [intV]
theorem intV_one (a : List Int) : ∀ u ∈ intV a, u.oneCell' = true := by
  intro u hu
  obtain ⟨x, _, rfl⟩ := List.mem_map.1 hu
  rfl
theorem slI_news {W : World} {B b off : Nat} {l : List Int} (h : SlI W B (some ⟨b, off, none⟩) l) : ∀ j u, (intV l)[j]? = some u → W.cell? ((⟨b, off, none⟩ : Addr).add j) = some u := fun j u hu => by
  unfold intV at hu
  rw [List.getElem?_map] at hu
  cases hz : l[j]? with
  | none => rw [hz] at hu; cases hu
  | some z =>
    rw [hz] at hu
    simp only [Option.map_some, Option.some.injEq] at hu
    obtain ⟨b', off', e, _, hc⟩ := h (fun e => by subst e; simp at hz)
    cases e
    rw [show (⟨b, off, none⟩ : Addr).add j = ⟨b, off + j, none⟩ by unfold Addr.add; split <;> simp_all, hc j z hz, hu]
end Go.Proofs.Ytodjkifcbgmckaa
