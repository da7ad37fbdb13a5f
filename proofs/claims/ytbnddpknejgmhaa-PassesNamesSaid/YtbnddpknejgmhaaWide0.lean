/- Layer 31, plain: wide charts of plain cells. -/
import Derived.Test.YtbnddpknejgmhaaComp0
namespace Go.Proofs.Ytbnddpknejgmhaa
open Go.RowKit
set_option maxRecDepth 100000

def kn1 : Stc := ⟨1, false, 0, 0⟩
def wideR (n : Nat) : RowC := (false, List.replicate n kn1)
theorem zeros_get (n k : Nat) : (List.replicate n (0 : Int)).getD k 0 = 0 := by
  rw [List.getD, List.getElem?_replicate]; split <;> rfl
theorem zeros_set (n k : Nat) : (List.replicate n (0 : Int)).set k 0 = List.replicate n 0 := by
  rw [List.set_replicate_self]
theorem wide_row (qr : Bool) (n : Nat) : ∀ (m k : Nat) (O R : List Ins), ∃ Y, rowRun qr k (List.replicate m kn1) (O, R, List.replicate n 0) = (O, R ++ Y, List.replicate n 0) ∧ Y.length = m
  | 0, k, O, R => ⟨[], by simp [rowRun], rfl⟩
  | m + 1, k, O, R => by
    have hO : stepO kn1 k O (List.replicate n 0) = O := by unfold stepO; rw [if_neg (fun h => h.2 (by rw [zeros_get]; rfl))]
    have hB : stepB kn1 k (List.replicate n 0) = List.replicate n 0 := by unfold stepB; rw [if_pos (show kn1.kind = 1 from rfl)]; exact zeros_set n k
    obtain ⟨Y, e, hl⟩ := wide_row qr n m (k + 1) O (stepRw qr kn1 k R (List.replicate n 0))
    refine ⟨knitI (if kn1.kind = 1 then 3 else 5) qr ((stepB kn1 k (List.replicate n 0)).getD k 0) k :: Y, ?_, by simp [hl]⟩
    show rowRun qr (k + 1) (List.replicate m kn1) (stepO kn1 k O (List.replicate n 0), stepRw qr kn1 k R (List.replicate n 0), stepB kn1 k (List.replicate n 0)) = _
    rw [hO, hB, e]
    unfold stepRw
    rw [List.append_assoc, hB]; rfl
theorem wide_rows (n : Nat) : ∀ (m i : Nat) (O : List Ins), ∃ O', rowsRun i (List.replicate m (wideR n)) (O, List.replicate n 0) = (O', List.replicate n 0) ∧ O'.length = O.length + m * n
  | 0, i, O => ⟨O, rfl, by simp⟩
  | m + 1, i, O => by
    obtain ⟨Y, e, hl⟩ := wide_row (decide (i % 2 = 1)) n n 0 O []
    obtain ⟨O', e2, hl2⟩ := wide_rows n m (i + 1) (O ++ (if i % 2 = 0 then ([] ++ Y).reverse else [] ++ Y))
    refine ⟨O', ?_, ?_⟩
    · rw [List.replicate_succ]
      simp only [rowsRun]
      have hf : faceL (wideR n) = List.replicate n kn1 := rfl
      rw [hf, e]
      simp only
      exact e2
    · rw [hl2, List.length_append]
      have : (if i % 2 = 0 then ([] ++ Y).reverse else [] ++ Y).length = n := by split <;> simp [hl]
      rw [this, Nat.add_mul]; omega
theorem wide_err (h : rowE 101 (wideR 101).2 = 0) (h2 : rowA 101 (wideR 101).2 = 101) : ∀ m, errR 101 (List.replicate m (wideR 101)) = 0
  | 0 => rfl
  | m + 1 => by
    rw [List.replicate_succ]
    simp only [errR]
    rw [if_pos h, h2]
    exact wide_err h h2 m
theorem wide_one : rowE 101 (wideR 101).2 = 0 ∧ rowA 101 (wideR 101).2 = 101 := by decide +kernel
theorem wide_chart {m : Nat} (hm : m ≤ 100) : chartE 101 (List.replicate m (wideR 101)) = 0 := by
  unfold chartE
  rw [List.length_replicate, if_neg (by omega), if_neg (by omega)]
  exact wide_err wide_one.1 wide_one.2 m
theorem wide_plain (m : Nat) : plainB 101 (List.replicate m (wideR 101)) = true := by
  unfold plainB
  rw [if_neg]
  · rfl
  · rw [Bool.not_eq_true, List.any_eq_false]
    intro r hr
    rw [List.eq_of_mem_replicate hr, Bool.not_eq_true, List.any_eq_false]
    intro s hs
    have : s ∈ List.replicate 101 kn1 := hs
    rw [List.eq_of_mem_replicate this]; decide
theorem wide_len (m : Nat) : (compL 101 (List.replicate m (wideR 101))).length = 102 + m * 101 := by
  unfold compL
  have e : (101 : Int).toNat = 101 := rfl
  rw [e]
  obtain ⟨O', h, hl⟩ := wide_rows 101 m 0 (headL 101)
  rw [h]
  show O'.length = _
  rw [hl]; simp [headL]
theorem wide_20 : compE 101 (List.replicate 20 (wideR 101)) = 4 := by
  unfold compE
  rw [if_neg (by rw [wide_chart (by omega)]; simp), if_neg (by rw [wide_plain]; simp), if_pos (by rw [wide_len]; omega)]
theorem wide_18 : compE 101 (List.replicate 18 (wideR 101)) = 0 ∧ (compO 101 (List.replicate 18 (wideR 101))).length = 1920 := by
  have h : compE 101 (List.replicate 18 (wideR 101)) = 0 := by
    unfold compE
    rw [if_neg (by rw [wide_chart (by omega)]; simp), if_neg (by rw [wide_plain]; simp), if_neg (by rw [wide_len]; omega)]
  refine ⟨h, ?_⟩
  unfold compO
  rw [if_pos h, wide_len]
end Go.Proofs.Ytbnddpknejgmhaa
