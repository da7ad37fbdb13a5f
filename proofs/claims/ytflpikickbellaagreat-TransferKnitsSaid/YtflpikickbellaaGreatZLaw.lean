/- TransferKnits: loops that were moved by the plan of the shift of cells, and knitted then, needle by needle, give the loops that the cells make, each out of its parents in their order, for at most 60 cells, or too many. -/
import Derived.Test.YtflpikickbellaaGreatZ51
import Derived.Test.YtflpikickbellaaGreatZ52
namespace Go.Proofs.YtflpikickbellaaGreat.lawKnits
open Go.ChangeShapes Go.WideShapes Go.ChangeAt Go.RowKit
theorem own : ownKnob Tryz.prog.godebug = none := by kernel_rfl
theorem laidOut : laidOutB Tryz.prog = true := by kernel_rfl
theorem reads : ∀ t ∈ Tryz.f4.params.toList, Tryz.prog.readableRec t = true ∧ t < Tryz.prog.types.size := by
 have h0 : Tryz.prog.readableRec 50 = true := by kernel_rfl
 have g0 : 50 < Tryz.prog.types.size := of_decide_eq_true (by kernel_rfl)
 intro t ht
 rw [Tryz.params4] at ht
 replace ht : t ∈ [50] := ht
 simp only [List.mem_cons, List.not_mem_nil, or_false] at ht
 rcases ht with rfl
 · exact ⟨h0, g0⟩
set_option maxRecDepth 100000 in
theorem contract (H : Type) (enc : TypeId × Value → H) (W : World) (base : Nat) (args : Array Value) (ds gs : List (DataW H)) (before : List MemPlace)
 (hval : ∀ (j : Nat) t v, Tryz.f4.params[j]? = some t → args[j]? = some v → Value.okWide Tryz.prog W .any base t v)
 (hW : DataW.Whole enc Tryz.prog Tryz.f4.params.toList Rows.transferKnitsSpec.vars false W args.toList ds gs before) :
 Calls Tryz.prog 4 args W fun e W' => ∃ v, e = .returned v ∧ Rows.transferKnitsSpec.post enc Tryz.prog Tryz.f4 false true false false W args v W' := by
 have hW' := hW
 obtain ⟨p, q, hA0, hV, rfl, hfz, hnd⟩ := hW
 have hA : DataW.TrodAll enc Tryz.prog W 0 (fun _ => true) true Tryz.f4.params.toList args.toList ds p := hA0
 rw [Tryz.params4] at hA hval
 obtain ⟨v0, d0, rfl, rfl, h0⟩ := trodAll_one hA
 obtain ⟨rfl, rfl⟩ := trodVars_none hV
 obtain ⟨a0, len0, cap0, rfl⟩ := okWide_slice Tryz.underlying50 (hval 0 50 v0 rfl rfl)
 obtain ⟨fuel0, hf0⟩ := h0
 obtain ⟨b0, l0, cap0', e0, hlc0, hlw0, hsl0⟩ := open_stitches hf0
 replace e0 : [Value.slice a0 len0 cap0] = [.slice b0 l0.length cap0'] := e0
 simp only [List.cons.injEq, Value.slice.injEq, and_true] at e0
 obtain ⟨rfl, rfl, rfl⟩ := e0
 refine (knits_walk a0 cap0 l0 hlc0 hlw0 W hsl0).mono fun e W' ⟨he, hb⟩ => ?_
 subst he
 exact ⟨_, rfl, law_post laidOut Tryz.underlying4 (by kernel_rfl) rfl reads hW' rfl hb⟩
set_option maxRecDepth 100000 in
theorem lifted (os : Os) (started : os.Started) (H : Type) (enc : TypeId × Value → H) :
 ReturnsInHanded {} Tryz.checked os 4 .any (Rows.transferKnitsSpec.pre6 enc Tryz.prog Tryz.f4 Rows.transferKnitsRow.domain false) (Rows.transferKnitsSpec.post enc Tryz.prog Tryz.f4 false true false false) := by
 refine returnsInHanded_of_change (C := Tryz.checked) own started (by kernel_rfl) Tryz.func4
  (ChangeSpec.witness6 (enc := enc) (C := Tryz.checked) false ⟨#[], #[.slice none 0 0], []⟩ 8 (by kernel_rfl) (by kernel_rfl) (by kernel_rfl) (by kernel_rfl)) ?_
 intro W base args ds gs before hval hW _ _
 exact contract H enc W base args ds gs before hval hW
theorem proved : Rows.TransferKnitsSaid :=
 OpenClaim.holds_of_wide 4 Tryz.f4 rfl rfl rfl rfl rfl rfl rfl ⟨rfl, rfl, rfl, rfl, rfl⟩ rfl rfl rfl rfl rfl (by kernel_rfl) Tryz.func4 (by kernel_rfl)
  (of_decide_eq_true (by kernel_rfl)) (by unfold Func.isWrapper; rw [if_neg (of_decide_eq_false (by kernel_rfl))]; exact ⟨rfl, rfl⟩)
  (fun os started H enc _ => lifted os started H enc)
end Go.Proofs.YtflpikickbellaaGreat.lawKnits
