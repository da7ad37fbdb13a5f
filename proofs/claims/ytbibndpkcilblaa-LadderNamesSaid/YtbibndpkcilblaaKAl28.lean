/- Layer 28: alive. -/
import Derived.Test.YtbibndpkcilblaaKEx28
namespace Go.Proofs.Ytbibndpkcilblaa
open Go.RowKit Go.Shelf Go.Sort
set_option maxRecDepth 100000

theorem ex_ok : chartE 2 exP = 0 := by kernel_rfl
theorem al_runs : runS 2 exP [5] = (0, [5]) ∧ stopS 2 exP [5] = (0, [4]) ∧ runS 2 exP [5, 6] = (0, [2, 3, 4, 5, 6]) ∧ stopS 2 exP [5, 6] = (0, [0, 1]) := ⟨by kernel_rfl, by kernel_rfl, by kernel_rfl, by kernel_rfl⟩
theorem lit_sl (W : World) (l : List Int) (cs : Array Value) (h : cs = (l.map (Value.int .i64)).toArray) : SlI (W.alloc (.cells cs 3)) (W.alloc (.cells cs 3)).heap.size (some ⟨W.heap.size, 0, none⟩) l := fun _ => by
  subst h
  refine ⟨W.heap.size, 0, rfl, by simp, fun j x hx => ?_⟩
  rw [Nat.zero_add]
  exact cell_new rfl rfl (by simp [hx])
theorem al_run (l : List Int) (n : Nat) (hn : n = l.length) (hl : l.length ≤ 300) (A : Option Addr) (c : Nat) (W : World) (hs : SlC W W.heap.size A exP) (cs : Array Value) (h : cs = (l.map (Value.int .i64)).toArray) {x : Int} {r : List Int} (hr : runS 2 exP l = (x, r)) :
    Calls Try.prog 10 #[.agg #[.int .i64 2, .slice A 3 c], .slice (some ⟨W.heap.size, 0, none⟩) n n] (W.alloc (.cells cs 3)) fun e w' => BoPost x r (W.alloc (.cells cs 3)) e w' := by
  subst hn
  have hb := al_t W (.cells cs 3)
  have := Run_x 2 A c exP exP_wf (fun _ => by decide) (some ⟨W.heap.size, 0, none⟩) l.length l hl (W.alloc (.cells cs 3)) ((hs.below hb).more hb.size) (lit_sl W l cs h)
  rw [hr] at this
  exact this
theorem al_stop (l : List Int) (n : Nat) (hn : n = l.length) (hl : l.length ≤ 300) (A : Option Addr) (c : Nat) (W : World) (hs : SlC W W.heap.size A exP) (cs : Array Value) (h : cs = (l.map (Value.int .i64)).toArray) {x : Int} {r : List Int} (hr : stopS 2 exP l = (x, r)) :
    Calls Try.prog 12 #[.agg #[.int .i64 2, .slice A 3 c], .slice (some ⟨W.heap.size, 0, none⟩) n n] (W.alloc (.cells cs 3)) fun e w' => BoPost x r (W.alloc (.cells cs 3)) e w' := by
  subst hn
  have hb := al_t W (.cells cs 3)
  have := Stops_x 2 A c exP exP_wf (fun _ => by decide) (some ⟨W.heap.size, 0, none⟩) l.length l hl (W.alloc (.cells cs 3)) ((hs.below hb).more hb.size) (lit_sl W l cs h)
  rw [hr] at this
  exact this
theorem al_same {a : Option Addr} {n k m : Nat} {l : List Int} {W : World} (h : SlI W W.heap.size a l) (hn : n = l.length) (hm : m = n) (hl : n ≤ 1000) (cs : Array Value) (hc : cs = (l.map (Value.int .i64)).toArray) :
    Calls Try.prog 14 #[.slice a n k, .slice (some ⟨W.heap.size, 0, none⟩) m m] (W.alloc (.cells cs 3)) fun e w' => BlPost true (W.alloc (.cells cs 3)) e w' := by
  subst hm
  have hb := al_t W (.cells cs 3)
  exact same_any ((h.below hb).more hb.size) (lit_sl W l cs hc) hn (by omega)
theorem bel_lit {w W w' : World} {o : Obj} (h : Below w.heap.size w W) (hb : Below (W.alloc o).heap.size (W.alloc o) w') : Below w.heap.size w w' := h.trans (((al_t W o).trans (hb.mono (al_t W o).size)).mono h.size)
theorem sl_lit {W w' : World} {o : Obj} {a : Option Addr} {l : List Int} (h : SlI W W.heap.size a l) (hb : Below (W.alloc o).heap.size (W.alloc o) w') : SlI w' w'.heap.size a l := by
  have h2 := (al_t W o).trans (hb.mono (al_t W o).size)
  exact (h.below h2).more h2.size
set_option maxHeartbeats 8000000 in
theorem alive_any (w : World) : Calls Try.prog 15 #[] w fun e w' => BlPost true w e w' := by
  obtain ⟨r1, r2, r3, r4⟩ := al_runs
  have R1 := Lib.hid r1
  have R2 := Lib.hid r2
  have R3 := Lib.hid r3
  have R4 := Lib.hid r4
  clear r1 r2 r3 r4
  go_enter Try.func15, Try.ntmps15
  go_wp2_with fail
  refine (example_any w).mono ?_
  rintro e w1 ⟨A, c, rfl, hs, hb⟩
  have HC := Lib.hid (al_run [5] 1 rfl (by decide) A c w1 hs #[.int .i64 5] rfl R1.out)
  have HB := Lib.hid hb
  clear hs hb
  go_wp2_with fail
  refine HC.out.mono ?_
  rintro e w2 ⟨v1, rfl, ho, hb⟩
  obtain ⟨a1, k1, rfl⟩ := pxJ_is (n := 1) ho rfl
  have S1 := Lib.hid (pxJ_lies ho)
  have HB2 := Lib.hid (bel_lit HB.out hb)
  clear ho hb HB HC
  go_wp2_with fail
  refine (example_any w2).mono ?_
  rintro e w3 ⟨A, c, rfl, hs, hb⟩
  have HC := Lib.hid (al_stop [5] 1 rfl (by decide) A c w3 hs #[.int .i64 5] rfl R2.out)
  have HB3 := Lib.hid (HB2.out.trans (hb.mono HB2.out.size))
  have T1 := Lib.hid ((S1.out.below hb).more hb.size)
  clear hs hb S1 HB2
  go_wp2_with fail
  refine HC.out.mono ?_
  rintro e w4 ⟨v2, rfl, ho, hb⟩
  obtain ⟨a2, k2, rfl⟩ := pxJ_is (n := 1) ho rfl
  have S2 := Lib.hid (pxJ_lies ho)
  have U1 := Lib.hid (sl_lit T1.out hb)
  have HB4 := Lib.hid (bel_lit HB3.out hb)
  clear ho hb HB3 HC T1
  go_wp2_with fail
  refine (example_any w4).mono ?_
  rintro e w5 ⟨A, c, rfl, hs, hb⟩
  have HC := Lib.hid (al_run [5, 6] 2 rfl (by decide) A c w5 hs #[.int .i64 5, .int .i64 6] rfl R3.out)
  have HB5 := Lib.hid (HB4.out.trans (hb.mono HB4.out.size))
  have V1 := Lib.hid ((U1.out.below hb).more hb.size)
  have T2 := Lib.hid ((S2.out.below hb).more hb.size)
  clear hs hb U1 S2 HB4
  go_wp2_with fail
  refine HC.out.mono ?_
  rintro e w6 ⟨v3, rfl, ho, hb⟩
  obtain ⟨a3, k3, rfl⟩ := pxJ_is (n := 5) ho rfl
  have S3 := Lib.hid (pxJ_lies ho)
  have X1 := Lib.hid (sl_lit V1.out hb)
  have U2 := Lib.hid (sl_lit T2.out hb)
  have HB6 := Lib.hid (bel_lit HB5.out hb)
  clear ho hb HB5 HC V1 T2
  go_wp2_with fail
  refine (example_any w6).mono ?_
  rintro e w7 ⟨A, c, rfl, hs, hb⟩
  have HC := Lib.hid (al_stop [5, 6] 2 rfl (by decide) A c w7 hs #[.int .i64 5, .int .i64 6] rfl R4.out)
  have HB7 := Lib.hid (HB6.out.trans (hb.mono HB6.out.size))
  have Y1 := Lib.hid ((X1.out.below hb).more hb.size)
  have V2 := Lib.hid ((U2.out.below hb).more hb.size)
  have T3 := Lib.hid ((S3.out.below hb).more hb.size)
  clear hs hb X1 U2 S3 HB6
  go_wp2_with fail
  refine HC.out.mono ?_
  rintro e w8 ⟨v4, rfl, ho, hb⟩
  obtain ⟨a4, k4, rfl⟩ := pxJ_is (n := 2) ho rfl
  have S4 := Lib.hid (pxJ_lies ho)
  have Z1 := Lib.hid (sl_lit Y1.out hb)
  have X2 := Lib.hid (sl_lit V2.out hb)
  have U3 := Lib.hid (sl_lit T3.out hb)
  have HB8 := Lib.hid (bel_lit HB7.out hb)
  clear ho hb HB7 HC Y1 V2 T3 R1 R2 R3 R4
  go_wp2_with fail
  refine (al_same Z1.out rfl rfl (by decide) #[.int .i64 5] rfl).mono ?_
  rintro e w9 ⟨rfl, hb⟩
  have HB9 := Lib.hid (bel_lit HB8.out hb)
  have Y2 := Lib.hid (sl_lit X2.out hb)
  have V3 := Lib.hid (sl_lit U3.out hb)
  have T4 := Lib.hid (sl_lit S4.out hb)
  clear hb HB8 X2 U3 S4 Z1
  go_wp2_with fail
  refine (al_same Y2.out rfl rfl (by decide) #[.int .i64 4] rfl).mono ?_
  rintro e w10 ⟨rfl, hb⟩
  have HB10 := Lib.hid (bel_lit HB9.out hb)
  have X3 := Lib.hid (sl_lit V3.out hb)
  have U4 := Lib.hid (sl_lit T4.out hb)
  clear hb HB9 V3 T4 Y2
  go_wp2_with fail
  refine (al_same X3.out rfl rfl (by decide) #[.int .i64 2, .int .i64 3, .int .i64 4, .int .i64 5, .int .i64 6] rfl).mono ?_
  rintro e w11 ⟨rfl, hb⟩
  have HB11 := Lib.hid (bel_lit HB10.out hb)
  have V4 := Lib.hid (sl_lit U4.out hb)
  clear hb HB10 U4 X3
  go_wp2_with fail
  refine (al_same V4.out rfl rfl (by decide) #[.int .i64 0, .int .i64 1] rfl).mono ?_
  rintro e w12 ⟨rfl, hb⟩
  have HB12 := Lib.hid (bel_lit HB11.out hb)
  clear hb HB11 V4
  go_wp2
  go_ret
  exact ⟨rfl, HB12.out⟩
end Go.Proofs.Ytbibndpkcilblaa
