/- TransferCells: Of and May return what the reference returns, for at most 60 cells, or too many, any shift of at most 50 loops and 100 pairs, a list of at most 100 numbers. -/
import Derived.Test.YtflpikickbellaaKCe32
import Derived.Test.YtflpikickbellaaKG8
namespace Go.Proofs.Ytflpikickbellaa.lawCells
open Go.ChangeShapes Go.WideShapes Go.ChangeAt Go.RowKit

theorem own : ownKnob Try.prog.godebug = none := by kernel_rfl
theorem laidOut : laidOutB Try.prog = true := by kernel_rfl
theorem reads : ∀ t ∈ Try.f4.params.toList, Try.prog.readableRec t = true ∧ t < Try.prog.types.size := by
  have h0 : Try.prog.readableRec 47 = true := by kernel_rfl
  have g0 : 47 < Try.prog.types.size := of_decide_eq_true (by kernel_rfl)
  have h1 : Try.prog.readableRec 25 = true := by kernel_rfl
  have g1 : 25 < Try.prog.types.size := of_decide_eq_true (by kernel_rfl)
  have h2 : Try.prog.readableRec 22 = true := by kernel_rfl
  have g2 : 22 < Try.prog.types.size := of_decide_eq_true (by kernel_rfl)
  intro t ht
  rw [Try.params4] at ht
  replace ht : t ∈ [47, 25, 22] := ht
  simp only [List.mem_cons, List.not_mem_nil, or_false] at ht
  rcases ht with rfl | rfl | rfl
  · exact ⟨h0, g0⟩
  · exact ⟨h1, g1⟩
  · exact ⟨h2, g2⟩

set_option maxRecDepth 100000 in
theorem contract (H : Type) (enc : TypeId × Value → H) (W : World) (base : Nat) (args : Array Value) (ds gs : List (DataW H)) (before : List MemPlace)
    (hval : ∀ (j : Nat) t v, Try.f4.params[j]? = some t → args[j]? = some v → Value.okWide Try.prog W .any base t v)
    (hW : DataW.Whole enc Try.prog Try.f4.params.toList Rows.transferCellsSpec.vars false W args.toList ds gs before) :
    Calls Try.prog 4 args W fun e W' => ∃ v, e = .returned v ∧ Rows.transferCellsSpec.post enc Try.prog Try.f4 false true false false W args v W' := by
  have hW' := hW
  obtain ⟨p, q, hA0, hV, rfl, hfz, hnd⟩ := hW
  have hA : DataW.TrodAll enc Try.prog W 0 (fun _ => true) true Try.f4.params.toList args.toList ds p := hA0
  rw [Try.params4] at hA hval
  obtain ⟨v0, v1, v2, d0, d1, d2, p0, p1, p2, rfl, rfl, rfl, h0, h1, h2⟩ := trodAll_three hA
  obtain ⟨rfl, rfl⟩ := trodVars_none hV
  obtain ⟨a0, len0, cap0, rfl⟩ := okWide_slice Try.underlying47 (hval 0 47 v0 rfl rfl)
  obtain ⟨fuel0, hf0⟩ := h0
  obtain ⟨b0, l0, cap0', e0, hlc0, hlw0, hsl0⟩ := open_stitches hf0
  replace e0 : [Value.slice a0 len0 cap0] = [.slice b0 l0.length cap0'] := e0
  simp only [List.cons.injEq, Value.slice.injEq, and_true] at e0
  obtain ⟨rfl, rfl, rfl⟩ := e0
  obtain ⟨b1, A1, F1, c1, fc1, rfl, ht1, hf1, hsa1, hsf1⟩ := open_shift (hval 1 25 v1 rfl rfl) h1
  obtain ⟨a2, len2, cap2, rfl⟩ := okWide_slice Try.underlying22 (hval 2 22 v2 rfl rfl)
  obtain ⟨fuel2, hf2⟩ := h2
  obtain ⟨l2, rfl, hlc2, hlm2, hsl2⟩ := open_ints_sl hf2
  refine (cells_walk a0 cap0 l0 hlc0 hlw0 A1 F1 c1 fc1 b1 a2 cap2 l2 W hsl0 hsa1 hsf1 hsl2).mono fun e W' ⟨he, hb⟩ => ?_
  subst he
  exact ⟨_, rfl, law_post laidOut Try.underlying4 (by kernel_rfl) rfl reads hW' rfl hb⟩

set_option maxRecDepth 100000 in
theorem lifted (os : Os) (started : os.Started) (H : Type) (enc : TypeId × Value → H) :
    ReturnsInHanded {} Try.checked os 4 .any (Rows.transferCellsSpec.pre6 enc Try.prog Try.f4 Rows.transferCellsRow.domain false) (Rows.transferCellsSpec.post enc Try.prog Try.f4 false true false false) := by
  refine returnsInHanded_of_change (C := Try.checked) own started (by kernel_rfl) Try.func4
    (ChangeSpec.witness6 (enc := enc) (C := Try.checked) false ⟨#[], #[.slice none 0 0, .agg #[.slice none 0 0, .slice none 0 0], .slice none 0 0], []⟩ 8 (by kernel_rfl) (by kernel_rfl) (by kernel_rfl) (by kernel_rfl)) ?_
  intro W base args ds gs before hval hW _ _
  exact contract H enc W base args ds gs before hval hW

theorem proved : Rows.TransferCellsSaid :=
  OpenClaim.holds_of_wide 4 Try.f4 rfl rfl rfl rfl rfl rfl rfl ⟨rfl, rfl, rfl, rfl, rfl⟩ rfl rfl rfl rfl rfl (by kernel_rfl) Try.func4 (by kernel_rfl)
    (of_decide_eq_true (by kernel_rfl)) (by unfold Func.isWrapper; rw [if_neg (of_decide_eq_false (by kernel_rfl))]; exact ⟨rfl, rfl⟩)
    (fun os started H enc _ => lifted os started H enc)
end Go.Proofs.Ytflpikickbellaa.lawCells
