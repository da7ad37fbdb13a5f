/- Layer 28: the calls of LadderNames. -/
import Derived.Test.YtbibndpkcilblaaKNb2
namespace Go.Proofs.Ytbibndpkcilblaa
open Go.RowKit Go.Shelf Go.Sort
set_option maxRecDepth 100000

/-- The chart y's box, and the lists that calls have handed back. -/
structure NaS (A : Option Addr) (c gb : Nat) (w : World) (L : List (Option Addr × List Int)) (W : World) : Prop where
  ff : RfF 3 A c yP gb w W
  ls : ∀ x ∈ L, SlI W W.heap.size x.1 x.2
theorem NaS.to {A : Option Addr} {c gb : Nat} {w W W' : World} {L : List (Option Addr × List Int)} (h : NaS A c gb w L W) (hb : Below W.heap.size W W') : NaS A c gb w L W' := ⟨h.ff.to hb, fun x hx => ((h.ls x hx).below hb).more hb.size⟩
theorem NaS.add {A : Option Addr} {c gb : Nat} {w W : World} {L : List (Option Addr × List Int)} (h : NaS A c gb w L W) {a : Option Addr} {l : List Int} (hl : SlI W W.heap.size a l) : NaS A c gb w ((a, l) :: L) W := ⟨h.ff, fun x hx => by
  rcases List.mem_cons.1 hx with rfl | hx
  · exact hl
  · exact h.ls x hx⟩
theorem y12 : chartE 3 yP = 0 → yP.length ≤ 12 := fun _ => by decide
section
variable {A : Option Addr} {c gb : Nat} {w W : World} {L : List (Option Addr × List Int)} (h : NaS A c gb w L W)
include h
theorem y_run : Calls Try.prog 10 #[.agg #[.int .i64 3, .slice A 2 c], .slice (some ⟨W.heap.size, 0, none⟩) 3 3] (W.alloc (.cells #[.int .i64 6, .int .i64 7, .int .i64 8] 3)) fun e w' => BoPost 0 [4, 5, 6, 7, 8] (W.alloc (.cells #[.int .i64 6, .int .i64 7, .int .i64 8] 3)) e w' := by
  have := Run_x 3 A c yP yP_wf y12 (some ⟨W.heap.size, 0, none⟩) 3 [6, 7, 8] (by decide) (W.alloc (.cells #[.int .i64 6, .int .i64 7, .int .i64 8] 3)) (h.to (al_t' W _)).ff.sl (lit_sl W [6, 7, 8] _ rfl)
  rw [na_1] at this
  exact this
theorem y_ends0 : Calls Try.prog 26 #[.agg #[.int .i64 3, .slice A 2 c], .int .i64 0] W fun e w' => BoPost 0 [3] W e w' := by
  have := Ends_x 3 A c yP yP_wf y12 0 W h.ff.sl
  rw [na_2] at this
  exact this
theorem y_ends1 : Calls Try.prog 26 #[.agg #[.int .i64 3, .slice A 2 c], .int .i64 1] W fun e w' => BoPost 0 [6] W e w' := by
  have := Ends_x 3 A c yP yP_wf y12 1 W h.ff.sl
  rw [na_3] at this
  exact this
theorem y_dep7 : Calls Try.prog 25 #[.agg #[.int .i64 3, .slice A 2 c], .int .i64 7] W fun e w' => DpPost 0 1 W e w' := by
  have := Depth_x 3 A c yP yP_wf y12 7 W h.ff.sl
  rw [na_4] at this
  exact this
theorem y_dep6 : Calls Try.prog 25 #[.agg #[.int .i64 3, .slice A 2 c], .int .i64 6] W fun e w' => DpPost 0 2 W e w' := by
  have := Depth_x 3 A c yP yP_wf y12 6 W h.ff.sl
  rw [na_5] at this
  exact this
theorem y_safe : Calls Try.prog 24 #[.agg #[.int .i64 3, .slice A 2 c], .int .i64 1] W fun e w' => BoPost 0 [7] W e w' := by
  have := Safe_x 3 A c yP yP_wf y12 1 W h.ff.sl
  rw [na_6] at this
  exact this
theorem y_dep5 : Calls Try.prog 25 #[.agg #[.int .i64 3, .slice A 2 c], .int .i64 5] W fun e w' => DpPost 2 0 W e w' := by
  have := Depth_x 3 A c yP yP_wf y12 5 W h.ff.sl
  rw [na_7] at this
  exact this
theorem y_hang : Calls Try.prog 20 #[.agg #[.int .i64 3, .slice A 2 c], .int .i64 9] W fun e w' => BoPost 2 [] W e w' := by
  have := Hangs_x 3 A c yP yP_wf y12 9 W h.ff.sl
  rw [na_8] at this
  exact this
theorem y_endsm : Calls Try.prog 26 #[.agg #[.int .i64 3, .slice A 2 c], .int .i64 (-1)] W fun e w' => BoPost 2 [] W e w' := by
  have := Ends_x 3 A c yP yP_wf y12 (-1) W h.ff.sl
  rw [na_9] at this
  exact this
end
theorem z_safe (W : World) : Calls Try.prog 24 #[.agg #[.int .i64 (-1), .slice none 0 0], .int .i64 0] W fun e w' => BoPost 8 [] W e w' := by
  have := Safe_x (-1) none 0 [] (fun r hr => by cases hr) (fun _ => by decide) 0 W (fun hn => absurd rfl hn)
  rw [na_a] at this
  exact this
theorem z_run (W : World) : Calls Try.prog 10 #[.agg #[.int .i64 2, .slice none 0 0], .slice (some ⟨W.heap.size, 0, none⟩) 2 2] (W.alloc (.cells #[.int .i64 0, .int .i64 1] 3)) fun e w' => BoPost 0 [0, 1] (W.alloc (.cells #[.int .i64 0, .int .i64 1] 3)) e w' := by
  have := Run_x 2 none 0 [] (fun r hr => by cases hr) (fun _ => by decide) (some ⟨W.heap.size, 0, none⟩) 2 [0, 1] (by decide) (W.alloc (.cells #[.int .i64 0, .int .i64 1] 3)) (fun hn => absurd rfl hn) (lit_sl W [0, 1] _ rfl)
  rw [na_b] at this
  exact this
end Go.Proofs.Ytbibndpkcilblaa
