/- Layer 31: the store of a pass's last instruction. -/
import Derived.Test.YtbnddpknejgmhaaPass4
namespace Go.Proofs.Ytbnddpknejgmhaa
open Go.RowKit
set_option maxRecDepth 100000

theorem grown_of_below {w w' : World} {r : Option Nat} (h : Below w.heap.size w w') : w.grownBy w' r := ⟨h.os, h.tape, h.output, h.size, fun b hb _ => h.block b hb⟩
theorem grown_set (w : World) (b o : Nat) (v : Value) : w.grownBy (w.setCell ⟨b, o, none⟩ v) (some b) :=
  ⟨rfl, rfl, rfl, by simp [World.setCell], fun k _ hk => Below.heap_setCell w ⟨b, o, none⟩ v k (fun e => hk (by rw [e]))⟩
theorem HookSet.setCell {w : World} {mb n : Nat} {U : List Hook} (h : HookSet w mb n U) {b o : Nat} (hne : b ≠ mb) (v : Value) : HookSet (w.setCell ⟨b, o, none⟩ v) mb n U :=
  h.kept (grown_set w b o v) (by simpa using fun e => hne e.symm)
theorem st_other {w : World} {b o o' : Nat} {v u : Value} (hne : o ≠ o') (h : w.cell? ⟨b, o', none⟩ = some u) : (w.setCell ⟨b, o, none⟩ v).cell? ⟨b, o', none⟩ = some u := by
  have e : (⟨b, o, none⟩ : Addr) ≠ ⟨b, o', none⟩ := fun e => hne (Addr.mk.inj e).2.1
  exact (World.cell?_setCell_other _ _ _ _ e).trans h
theorem st_same {w : World} {b o : Nat} {v u : Value} (h : w.cell? ⟨b, o, none⟩ = some u) : (w.setCell ⟨b, o, none⟩ v).cell? ⟨b, o, none⟩ = some v := World.cell?_setCell_same' w _ v (by rw [h]; rfl)
theorem PassAt.store {W : World} {pb mb n : Nat} {a l i : Ins} {rack : Int} {U : List Hook} (h : PassAt W pb mb n a l rack U) {v0 v1 v2 v3 v4 v5 v6 : Value}
    (e0 : v0 = .int .u8 i.op) (e1 : v1 = .bool i.right) (e2 : v2 = .int .u8 i.bed) (e3 : v3 = .int .i64 i.at_) (e4 : v4 = .int .i64 i.to_) (e5 : v5 = .int .i64 i.car) (e6 : v6 = .int .i64 i.rack) :
    W.grownBy (((((((W.setCell ⟨pb, 7, none⟩ v0).setCell ⟨pb, 8, none⟩ v1).setCell ⟨pb, 9, none⟩ v2).setCell ⟨pb, 10, none⟩ v3).setCell ⟨pb, 11, none⟩ v4).setCell ⟨pb, 12, none⟩ v5).setCell ⟨pb, 13, none⟩ v6) (some pb) ∧
    PassAt (((((((W.setCell ⟨pb, 7, none⟩ v0).setCell ⟨pb, 8, none⟩ v1).setCell ⟨pb, 9, none⟩ v2).setCell ⟨pb, 10, none⟩ v3).setCell ⟨pb, 11, none⟩ v4).setCell ⟨pb, 12, none⟩ v5).setCell ⟨pb, 13, none⟩ v6) pb mb n a i rack U := by
  have hne : pb ≠ mb := h.set_.ne h.rack
  obtain ⟨⟨f0, f1, f2, f3, f4, f5, f6⟩, ⟨l0, l1, l2, l3, l4, l5, l6⟩, hk, hu, hs, hf⟩ := h
  simp only [Nat.zero_add, Nat.reduceAdd] at f1 f2 f3 f4 f5 f6 l1 l2 l3 l4 l5 l6
  refine ⟨((((((grown_set _ _ _ _).trans (grown_set _ _ _ _)).trans (grown_set _ _ _ _)).trans (grown_set _ _ _ _)).trans (grown_set _ _ _ _)).trans (grown_set _ _ _ _)).trans (grown_set _ _ _ _), ?_⟩
  subst e0 e1 e2 e3 e4 e5 e6
  have all : ∀ o u, W.cell? ⟨pb, o, none⟩ = some u → (o < 7 ∨ 13 < o) → (((((((W.setCell ⟨pb, 7, none⟩ (.int .u8 i.op)).setCell ⟨pb, 8, none⟩ (.bool i.right)).setCell ⟨pb, 9, none⟩ (.int .u8 i.bed)).setCell ⟨pb, 10, none⟩ (.int .i64 i.at_)).setCell ⟨pb, 11, none⟩ (.int .i64 i.to_)).setCell ⟨pb, 12, none⟩ (.int .i64 i.car)).setCell ⟨pb, 13, none⟩ (.int .i64 i.rack)).cell? ⟨pb, o, none⟩ = some u := fun o u hu ho =>
    st_other (by omega) (st_other (by omega) (st_other (by omega) (st_other (by omega) (st_other (by omega) (st_other (by omega) (st_other (by omega) hu))))))
  refine ⟨⟨all _ _ f0 (by omega), all _ _ f1 (by omega), all _ _ f2 (by omega), all _ _ f3 (by omega), all _ _ f4 (by omega), all _ _ f5 (by omega), all _ _ f6 (by omega)⟩, ⟨?_, ?_, ?_, ?_, ?_, ?_, ?_⟩, all _ _ hk (by omega), all _ _ hu (by omega), ?_, fun k => by simpa using hf k⟩
  · exact st_other (by omega) (st_other (by omega) (st_other (by omega) (st_other (by omega) (st_other (by omega) (st_other (by omega) (st_same l0))))))
  · exact st_other (by omega) (st_other (by omega) (st_other (by omega) (st_other (by omega) (st_other (by omega) (st_same (st_other (by omega) l1))))))
  · exact st_other (by omega) (st_other (by omega) (st_other (by omega) (st_other (by omega) (st_same (st_other (by omega) (st_other (by omega) l2))))))
  · exact st_other (by omega) (st_other (by omega) (st_other (by omega) (st_same (st_other (by omega) (st_other (by omega) (st_other (by omega) l3))))))
  · exact st_other (by omega) (st_other (by omega) (st_same (st_other (by omega) (st_other (by omega) (st_other (by omega) (st_other (by omega) l4))))))
  · exact st_other (by omega) (st_same (st_other (by omega) (st_other (by omega) (st_other (by omega) (st_other (by omega) (st_other (by omega) l5))))))
  · exact st_same (st_other (by omega) (st_other (by omega) (st_other (by omega) (st_other (by omega) (st_other (by omega) (st_other (by omega) l6))))))
  · exact ((((((hs.setCell hne _).setCell hne _).setCell hne _).setCell hne _).setCell hne _).setCell hne _).setCell hne _
end Go.Proofs.Ytbnddpknejgmhaa
