/- slices.Values, AppendSeq, Collect at ints. -/
import Derived.Test.YtodjkifcbgmckaaIter
import Derived.Maps.OwnIn
import Derived.Laws.OwnMore
namespace Go.Proofs.Ytodjkifcbgmckaa
open Go.RowKit Go.Shelf
attribute [local go_sem] Oper.semAt_some
set_option maxRecDepth 100000

theorem values_any (A : Option Addr) (n c : Nat) (w : World) :
    Calls Try.prog 44 #[.slice A n c] w fun e w' => e = .returned (.func (.func 62) #[] #[.pointer (some ⟨w.heap.size, 0, none⟩)]) ∧ w.alloc (.cells #[.slice A n c] 22) = w' := by
  have hmf : ∀ (fn : Fn) (first cap : Array Value) (w : World), (Instr.makeFunc fn first cap).run Try.prog w = .ok (.func fn first cap) w := fun _ _ _ _ => rfl
  go_enter Try.func44, Try.ntmps44
  go_wp2
  go_ret
  exact ⟨rfl, rfl⟩
def encI1 (x : Int) : Array Value := #[.int .i64 x]
set_option maxHeartbeats 4000000 in
theorem values_stops (n : Nat) (hn : 1 ≤ n) (Bs n₀ : Nat) (A : Option Addr) (c : Nat) (zs : List Int) (hpl : zs.length ≤ 1000000) (w : World) (hBs : Bs < w.heap.size) (hn0 : n₀ ≤ w.heap.size)
    (hc0 : w.cell? ⟨Bs, 0, none⟩ = some (.slice A zs.length c)) (hs : SlI w n₀ A zs) :
    SeqStopsK Fence.wide n Try.prog 62 #[.pointer (some ⟨Bs, 0, none⟩)] encI1 (Below n₀) (fun xs => xs = zs) (fun _ => True) zs.length w := by
  intro l J Jx W hW hJ hJx hY h0
  have hcW0 := (hW.cell (p := ⟨Bs, 0, none⟩) hBs).trans hc0
  have hsW : SlI W n₀ A zs := hs.below (hW.mono (by omega))
  clear hc0 hs hW hBs
  have HY := Lib.hid hY
  have HJ := Lib.hid hJ
  clear hY hJ hJx
  refine callsIn_of_wp Try.func62 rfl trivial ?_ rfl
  simp only [Try.ntmps62, List.size_toArray, List.length_cons, List.length_nil, Nat.reduceAdd, Nat.reduceSub, Array.replicate_succ, Array.replicate_zero, List.push_toArray, List.append_toArray, List.nil_append, List.cons_append]
  gi_wp2
  gi_loopw [4, 7] (fun s4 s7 wr => ∃ (k : Nat) (v4 : Value), k ≤ zs.length ∧ s7 = .int .i64 (k : Int) ∧ v4 = s4 ∧ Hid (J (zs.take k) wr) ∧ SlI wr n₀ A zs) (fun _ s7 _ => zs.length - (intOf s7).toNat)
  case atStart => exact ⟨0, _, Nat.zero_le _, rfl, rfl, h0, hsW⟩
  case round =>
    obtain ⟨k, v4, hk, rfl, rfl, HJs, hsr⟩ := hrel
    clear hcW0 hsW h0
    by_cases hlt : k < zs.length
    · obtain ⟨b, off, x, rfl, hB, hr, hcx⟩ := hsr.at_ hlt
      have hx : zs.take (k + 1) = zs.take k ++ [x] := by
        obtain ⟨hk', e⟩ := List.getElem?_eq_some_iff.1 hr
        rw [List.take_succ_eq_append_getElem hk', e]
      obtain ⟨fn, tmps, assign, body, hy, hR⟩ := HY.out _ x _ HJs.out (by rw [List.length_take]; omega)
      unfold encI1 at hy
      rw [← hx] at hR
      have HS := Lib.hid hsr
      clear hsr HJs hr hx
      gi_wp2
      refine hR.mono ?_
      rintro e W3 (⟨rfl, hJ3, hk3⟩ | ⟨rfl, hJx3⟩)
      · have HJ3 := Lib.hid hJ3
        have HS3 := Lib.hid (HS.out.below hk3)
        clear hk3 hJ3 hcx
        gi_wp2
        go_roundw
        case rel => exact ⟨k + 1, _, by omega, by go_num, rfl, HJ3, HS3.out⟩
        case measure => simp [intOf]; omega
      · gi_wp2
        refine bodyPost_ret (results_none rfl _ _ _) rfl ?_
        exact ⟨⟨_, rfl⟩, .inr ⟨_, trivial, hJx3⟩⟩
    · obtain rfl : k = zs.length := by omega
      have HF : Hid (J zs wr) := by have := HJs.out; rwa [List.take_length] at this
      clear hsr HJs
      gi_wp2
      go_end0
      exact ⟨⟨_, rfl⟩, .inl ⟨_, rfl, HF.out⟩⟩
end Go.Proofs.Ytodjkifcbgmckaa
