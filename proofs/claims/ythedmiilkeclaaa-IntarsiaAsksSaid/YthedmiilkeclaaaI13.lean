/- Layer 34, contracts: SamePairs of two slices that hold the same pairs; the law IntarsiaAsks walked. -/
import Derived.Test.YthedmiilkeclaaaI12
namespace Go.Proofs.Ythedmiilkeclaaa
open Go.RowKit
open Go.Proofs.Ythedmiilkeclaaa.I34
set_option maxRecDepth 100000

/-- The slice value '.slice A l.length c' holds the pairs l, below block B. -/
def SlP (w : World) (B : Nat) (A : Option Addr) (l : List (Nat × Nat)) : Prop :=
  l ≠ [] → ∃ b, A = some ⟨b, 0, none⟩ ∧ b < B ∧ ∀ j f, l[j]? = some f → w.cell? ⟨b, j * 2, none⟩ = some (.int .i64 (f.1 : Int)) ∧ w.cell? ⟨b, j * 2 + 1, none⟩ = some (.int .i64 (f.2 : Int))
theorem SlP.below {w w' : World} {B : Nat} {A : Option Addr} {l : List (Nat × Nat)} (h : SlP w B A l) (hb : Below B w w') : SlP w' B A l := fun hn => by
  obtain ⟨b, e, hB, hc⟩ := h hn
  exact ⟨b, e, hB, fun j z hz => ⟨(bcell hb hB _).trans (hc j z hz).1, (bcell hb hB _).trans (hc j z hz).2⟩⟩
theorem SlP.more {w : World} {B B' : Nat} {A : Option Addr} {l : List (Nat × Nat)} (h : SlP w B A l) (hB' : B ≤ B') : SlP w B' A l := fun hn => by
  obtain ⟨b, e, hB, hc⟩ := h hn
  exact ⟨b, e, by omega, hc⟩
theorem SlP.of_own {w : World} {B : Nat} {e : TypeId} {a : Option Addr} {c : Nat} {l : List (Nat × Nat)} (h : w.ownsRow B e 2 (.slice a l.length c) l.length (pairCells l)) : SlP w w.heap.size a l := fun hn => by
  obtain ⟨g, rfl, _, hg, hc⟩ := own_pos h (List.length_pos_iff.2 hn)
  refine ⟨g, rfl, hg, fun j f hf => ?_⟩
  have hj := (List.getElem?_eq_some_iff.1 hf).1
  obtain ⟨h1, h2⟩ := pairCells_at hf
  exact ⟨(hc _ (by omega)).trans h1, (hc _ (by omega)).trans h2⟩

theorem forIn_two {β : Type} (b : β) (f : Nat → β → Sem (ForInStep β)) : (forIn [:2] b f : Sem β) = (f 0 b >>= fun s => match s with
    | .done b => pure b
    | .yield b => f 1 b >>= fun s => match s with
      | .done b => pure b
      | .yield b => pure b) := by
  rw [Std.Legacy.Range.forIn_eq_forIn_range']
  simp only [Std.Legacy.Range.size, List.range'_succ]
  rfl
theorem run_equalIn_pair (W : World) (d : Nat) (a b a' b' : Int) :
    (Op.equalIn (d + 2) 46 (.agg #[.int .i64 a, .int .i64 b]) (.agg #[.int .i64 a', .int .i64 b'])).run Try.prog W = .ok (a == a' && b == b') W := by
  have hs : ∀ w, (sizeOf 3).run Try.prog w = .ok 1 w := fun w => by kernel_rfl
  have h0 : ∀ (x y : Int) w, (part 3 #[.int .i64 x, .int .i64 y] 0).run Try.prog w = .ok (.int .i64 x) w := fun x y w => by kernel_rfl
  have h1 : ∀ (x y : Int) w, (part 3 #[.int .i64 x, .int .i64 y] 1).run Try.prog w = .ok (.int .i64 y) w := fun x y w => by kernel_rfl
  have he : ∀ (x y : Int) w, (Op.equalIn (d + 1) 3 (.int .i64 x) (.int .i64 y)).run Try.prog w = .ok (x == y) w := fun x y w => run_equalIn_int w d _ _ _ _ _ Try.underlying3
  rw [show d + 2 = (d + 1) + 1 by omega, Op.equalIn]
  simp only [Sem.run_bind, run_underlying Try.underlying46, Result.andThen_ok, hs, forIn_two, Nat.zero_mul, Nat.one_mul, h0, he]
  cases ha : a == a' <;> cases hb : b == b' <;> simp [h1, he, hb, Result.andThen]
theorem run_neq_pair (W : World) (a b a' b' : Int) : (binOp .neq 46 (.agg #[.int .i64 a, .int .i64 b]) (.agg #[.int .i64 a', .int .i64 b'])).run Try.prog W = .ok (.bool (!(a == a' && b == b'))) W := by
  rw [run_neq_struct, show (10000 : Nat) = 9998 + 2 from rfl, run_equalIn_pair]; rfl
set_option maxHeartbeats 2000000 in
theorem samePairs_any (A A' : Option Addr) (c c' : Nat) (l : List (Nat × Nat)) (w : World) (h : SlP w w.heap.size A l) (h' : SlP w w.heap.size A' l) (hn : l.length ≤ 4611686018427387904) :
    Calls Try.prog 16 #[.slice A l.length c, .slice A' l.length c'] w fun e w' => e = .returned (.bool true) ∧ Below w.heap.size w w' := by
  have hne : (((l.length : Nat) : Int) == ((l.length : Nat) : Int)) = true := by simp
  go_enter Try.func16, Try.ntmps16
  go_wp2
  go_loopw [5] (fun i wr => ∃ k : Nat, k ≤ l.length ∧ i = .int .i64 k ∧ Below w.heap.size w wr) (fun i _ => l.length - (intOf i).toNat)
  case atStart => exact ⟨0, Nat.zero_le _, rfl, Below.refl _ _⟩
  case round =>
    obtain ⟨k, hk, rfl, hbw⟩ := hrel
    by_cases hlt : k < l.length
    · have hf : l[k]? = some l[k] := List.getElem?_eq_getElem hlt
      generalize l[k] = f at hf
      obtain ⟨b, rfl, hB, hc⟩ := h (fun e => by subst e; simp at hlt)
      obtain ⟨b', rfl, hB', hc'⟩ := h' (fun e => by subst e; simp at hlt)
      have h1 := (bcell hbw hB _).trans (hc k f hf).1
      have h2 := (bcell hbw hB _).trans (hc k f hf).2
      have h3 := (bcell hbw hB' _).trans (hc' k f hf).1
      have h4 := (bcell hbw hB' _).trans (hc' k f hf).2
      clear hc hc' h h' hf
      have hneq := run_neq_pair
      go_wp2
      go_quiet (fail)
      go_wp2
      go_roundw
      case rel => exact ⟨k + 1, by omega, by go_num, below_drewN hbw _⟩
      case measure => simp [intOf]; omega
    · clear h h'
      go_wp2
      go_ret
      exact ⟨rfl, hbw⟩
end Go.Proofs.Ythedmiilkeclaaa
