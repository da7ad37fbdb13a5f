/- Layer 30: the chapter's examples hold. Layer 30: the chapter's examples hold: alive. -/
import Derived.Test.YtjoglkamhjcmhaaKRun
import Derived.Test.YtjoglkamhjcmhaaKSame
import Derived.Test.YtjoglkamhjcmhaaKPr
namespace Go.Proofs.Ytjoglkamhjcmhaa
open Go.RowKit Go.Shelf Go.Sort
set_option maxRecDepth 100000

/-- A state in the box b, its lists below the box. -/
structure Bx (W : World) (b : Nat) (s : BedS) (p : BedP) : Prop where
  cells : BdIn W b s p
  state : BedAt W W.heap.size p s
theorem Bx.lt {W : World} {b : Nat} {s : BedS} {p : BedP} (h : Bx W b s p) : b < W.heap.size := lt_of_cell h.cells.1
theorem Bx.to {W W' : World} {b : Nat} {s : BedS} {p : BedP} (h : Bx W b s p) (hb : Below W.heap.size W W') : Bx W' b s p := ⟨h.cells.below hb h.lt, (h.state.below hb).more hb.size⟩
theorem Bx.new {w : World} {s : BedS} {p : BedP} (h : BedAt w w.heap.size p s) : Bx (w.alloc (bedBox s p)) w.heap.size s p := ⟨BdIn.new w s p, (h.below ((Below.refl _ w).alloc (Nat.le_refl _) _)).more (by simp)⟩
/-- Stored into a box that was there before the lists were made. -/
theorem Bx.set {W : World} {lo b : Nat} {s t : BedS} {p q : BedP} (h : BedFr lo W p s) (hb : b < lo) (hc : BdIn W b t q) : Bx (BdIn.set W b s p) b s p := ⟨hc.stored s p, (h.sets hb).at_⟩

def knB (right : Bool) (n : Int) : Ins := ⟨3, right, 0, n, 0, 1, 0⟩
def beginL : List Ins := [⟨1, false, 0, 0, 0, 1, 0⟩, knB true 0, knB true 1]
def aS : BedS := ⟨0, [⟨0, 0, [0]⟩, ⟨0, 1, [1]⟩], [⟨1, false, 3⟩], [⟨[], 0, 0, 1⟩, ⟨[], 0, 1, 1⟩]⟩
def tS : BedS := ⟨0, [⟨0, 0, [0]⟩, ⟨0, 1, [2]⟩], [⟨1, false, 1⟩], [⟨[], 0, 0, 1⟩, ⟨[], 0, 1, 1⟩, ⟨[1], 0, 1, 1⟩]⟩
theorem al_run : runS bed0 beginL = (aS, 3, 0) := by kernel_rfl
theorem al_do1 : doS aS (knB false 1) = (tS, 0) := by kernel_rfl
theorem al_do2 : doS aS (knB true 1) = (bed0, 36) := by kernel_rfl
theorem al_on : onR tS 0 1 = ([2], 0) := by kernel_rfl
theorem al_feed : feedR aS 1 = (⟨1, false, 3⟩, true, 0) := by kernel_rfl
theorem aS_wf : aS.wf := ⟨fun h hh => by
  simp only [aS, List.mem_cons, List.not_mem_nil, or_false] at hh
  rcases hh with rfl | rfl <;> exact ⟨by decide, by decide⟩, fun h hh => by
  simp only [aS, List.mem_cons, List.not_mem_nil, or_false] at hh
  rcases hh with rfl | rfl <;> exact ⟨by decide, by decide⟩⟩
theorem tS_wf : tS.wf := ⟨fun h hh => by
  simp only [tS, List.mem_cons, List.not_mem_nil, or_false] at hh
  rcases hh with rfl | rfl <;> exact ⟨by decide, by decide⟩, fun h hh => by
  simp only [tS, List.mem_cons, List.not_mem_nil, or_false] at hh
  rcases hh with rfl | rfl | rfl <;> exact ⟨by decide, by decide⟩⟩
theorem bed0_wf : bed0.wf := ⟨fun _ h => absurd h List.not_mem_nil, fun _ h => absurd h List.not_mem_nil⟩
theorem knB_wf (r : Bool) (n : Int) : (knB r n).wf := ⟨by show (0 : Int) ≤ 3; decide, by show (3 : Int) ≤ 255; decide, by show (0 : Int) ≤ 0; decide, by show (0 : Int) ≤ 255; decide⟩
theorem beginL_wf : ∀ i ∈ beginL, i.wf := by
  intro i hi
  simp only [beginL, List.mem_cons, List.not_mem_nil, or_false] at hi
  rcases hi with rfl | rfl | rfl
  · exact ⟨by decide, by decide, by decide, by decide⟩
  · exact knB_wf _ _
  · exact knB_wf _ _
theorem kn_any (right : Bool) (n : Int) (w : World) : Calls Try.prog 29 #[.bool right, .int .i64 n] w fun e w' => e = .returned (.agg #[.int .u8 3, .bool right, .int .u8 0, .int .i64 n, .int .i64 0, .int .i64 1, .int .i64 0]) ∧ Below w.heap.size w w' := by
  have hb := Lib.hid (fun o => (Below.refl w.heap.size w).alloc (Nat.le_refl _) o)
  go_enter Try.func29, Try.ntmps29
  go_wp2
  exact bodyPost_ret (v := .agg #[.int .u8 3, .bool right, .int .u8 0, .int .i64 n, .int .i64 0, .int .i64 1, .int .i64 0]) (by simp [results, Try.results29, go_sem]) rfl ⟨rfl, hb.out _⟩
def insOut (l : List Ins) (n : Nat) (w : World) (e : Ending) (w' : World) : Prop := ∃ A c, e = .returned (.slice A n c) ∧ SlX w' w'.heap.size A l ∧ n ≤ c ∧ Below w.heap.size w w'
theorem cells7 (l : List Ins) : ∀ cs ∈ l.map Ins.cells, cs.length = 7 := by
  intro cs h
  obtain ⟨x, _, rfl⟩ := List.mem_map.1 h
  rfl
theorem lit_ins {W : World} {l : List Ins} {cs : Array Value} {t : TypeId} (h : cs.toList = (l.map Ins.cells).flatten) (hl : l.length ≤ maxLen) : SlX (W.alloc (.cells cs t)) (W.alloc (.cells cs t)).heap.size (some ⟨W.heap.size, 0, none⟩) l := by
  have ho := World.ownsRow_lit (base := W.heap.size) (e := t) (size := 7) W cs l.length (Nat.le_refl _) hl (by rw [← Array.length_toList, h, flat_len (cells7 l), List.length_map])
  rw [h] at ho
  exact SlS.of_own (cells7 l) (by rw [List.length_map]) ho
set_option maxHeartbeats 1000000 in
theorem begin_any (w : World) : Calls Try.prog 28 #[] w fun e w' => insOut beginL 3 w e w' := by
  have HK := Lib.hid (fun r n w => kn_any r n w)
  go_enter Try.func28, Try.ntmps28
  go_wp2_with fail
  refine (HK.out true 0 _).mono ?_
  rintro e w1 ⟨rfl, hb1⟩
  go_wp2_with fail
  refine (HK.out true 1 _).mono ?_
  rintro e w2 ⟨rfl, hb2⟩
  have HB := Lib.hid (hb1.trans (hb2.mono hb1.size))
  clear hb1 hb2
  go_wp2
  go_ret
  exact ⟨_, _, rfl, lit_ins (l := beginL) rfl (by decide), Nat.le_refl _, HB.out.alloc HB.out.size _⟩
def stOut (s : BedS) (n m k : Nat) (x : Value → Value) (w : World) (e : Ending) (w' : World) : Prop := ∃ p : BedP, e = .returned (x (.agg #[.int .i64 s.rack, .slice p.ah n p.ch, .slice p.af m p.cf, .slice p.am k p.cm])) ∧ BedFr w.heap.size w' p s ∧ Below w.heap.size w w'
theorem brun0 (A : Option Addr) (c : Nat) (w : World) (hx : SlX w w.heap.size A beginL) :
    Calls Try.prog 26 #[.agg #[.int .i64 0, .slice none 0 0, .slice none 0 0, .slice none 0 0], .slice A 3 c] w fun e w' => stOut aS 2 1 2 (fun v => .tuple #[v, .int .i64 3, .int .i64 0]) w e w' := by
  have h := brun_any bed0 bedP0 bed0_wf ⟨by decide, by decide, by decide⟩ beginL (by decide) (fun _ _ => by decide) beginL_wf A c w (bedAt0 _ _) hx
  rw [al_run] at h
  exact h
theorem bdoA1 (p : BedP) (w : World) (hs : BedAt w w.heap.size p aS) :
    Calls Try.prog 18 #[.agg #[.int .i64 0, .slice p.ah 2 p.ch, .slice p.af 1 p.cf, .slice p.am 2 p.cm], .agg #[.int .u8 3, .bool false, .int .u8 0, .int .i64 1, .int .i64 0, .int .i64 1, .int .i64 0]] w fun e w' => stOut tS 2 1 3 (fun v => .tuple #[v, .int .i64 0]) w e w' := by
  have h := bdo_any aS p aS_wf ⟨by decide, by decide, by decide⟩ (fun _ => by decide) (knB false 1) (knB_wf _ _) w hs
  rw [al_do1] at h
  exact h
theorem bdoA2 (p : BedP) (w : World) (hs : BedAt w w.heap.size p aS) :
    Calls Try.prog 18 #[.agg #[.int .i64 0, .slice p.ah 2 p.ch, .slice p.af 1 p.cf, .slice p.am 2 p.cm], .agg #[.int .u8 3, .bool true, .int .u8 0, .int .i64 1, .int .i64 0, .int .i64 1, .int .i64 0]] w fun e w' => stOut bed0 0 0 0 (fun v => .tuple #[v, .int .i64 36]) w e w' := by
  have h := bdo_any aS p aS_wf ⟨by decide, by decide, by decide⟩ (fun _ => by decide) (knB true 1) (knB_wf _ _) w hs
  rw [al_do2] at h
  exact h
theorem onA (p : BedP) (w : World) (hs : BedAt w w.heap.size p tS) :
    Calls Try.prog 13 #[.agg #[.int .i64 0, .slice p.ah 2 p.ch, .slice p.af 1 p.cf, .slice p.am 3 p.cm], .int .u8 0, .int .i64 1] w fun e w' => ∃ A c, e = .returned (.tuple #[.slice A 1 c, .int .i64 0]) ∧ SlI w' w'.heap.size A [2] ∧ Below w.heap.size w w' := by
  have h := on_any tS p tS_wf ⟨by decide, by decide, by decide⟩ 0 1 (by decide) w hs
  unfold onOut at h
  rw [al_on] at h
  exact h
theorem feedA (p : BedP) (w : World) (hs : BedAt w w.heap.size p aS) :
    Calls Try.prog 15 #[.agg #[.int .i64 0, .slice p.ah 2 p.ch, .slice p.af 1 p.cf, .slice p.am 2 p.cm], .int .i64 1] w fun e w' => e = .returned (.tuple #[.agg #[.int .i64 1, .bool false, .int .i64 3], .bool true, .int .i64 0]) ∧ Below w.heap.size w w' := by
  have h := feed_any aS p aS_wf ⟨by decide, by decide, by decide⟩ 1 w hs
  unfold feedOut at h
  rw [al_feed] at h
  exact h
theorem lit_one (W : World) (x : Int) (t : TypeId) : SlI (W.alloc (.cells #[.int .i64 x] t)) (W.alloc (.cells #[.int .i64 x] t)).heap.size (some ⟨W.heap.size, 0, none⟩) [x] := by
  have ho := World.ownsRow_lit (base := W.heap.size) (e := t) (size := 1) W #[.int .i64 x] 1 (Nat.le_refl _) (by decide) rfl
  have h2 := SlS.of_own (zs := [[Value.int .i64 x]]) (fun cs h => by rw [List.mem_singleton.1 h]; rfl) rfl ho
  exact fun hn => by
    obtain ⟨b, off, e, hb, hc⟩ := h2 (by simp)
    refine ⟨b, off, e, hb, fun j r hr => ?_⟩
    have hj : j = 0 := by
      have := (List.getElem?_eq_some_iff.1 hr).1
      simp at this; exact this
    subst hj
    have : r = x := by simpa using hr.symm
    subst this
    have := hc 0 _ rfl 0 _ rfl
    simpa using this
end Go.Proofs.Ytjoglkamhjcmhaa
namespace Go.Proofs.Ytjoglkamhjcmhaa
open Go.RowKit Go.Shelf Go.Sort
set_option maxRecDepth 100000

theorem bcell2 {W w1 : World} {B : Nat} (hb : Below B W w1) : (∀ b o, b < B → w1.cell? ⟨b, o, none⟩ = W.cell? ⟨b, o, none⟩) ∧ (∀ b o, b < B → w1.frozen? ⟨b, o, none⟩ = W.frozen? ⟨b, o, none⟩) :=
  ⟨fun b o h => hb.cell (p := ⟨b, o, none⟩) h, fun b o h => hb.frozen (p := ⟨b, o, none⟩) h⟩
theorem fdBox_keep {W W' : World} {b B : Nat} {v0 v1 v2 : Value} (h : W.cell? ⟨b, 0, none⟩ = some v0 ∧ W.cell? ⟨b, 1, none⟩ = some v1 ∧ W.cell? ⟨b, 2, none⟩ = some v2) (hb : Below B W W') (hB : b < B) : W'.cell? ⟨b, 0, none⟩ = some v0 ∧ W'.cell? ⟨b, 1, none⟩ = some v1 ∧ W'.cell? ⟨b, 2, none⟩ = some v2 :=
  ⟨(bcell hb hB _).trans h.1, (bcell hb hB _).trans h.2.1, (bcell hb hB _).trans h.2.2⟩
/-- What is known in the midst of alive. -/
structure AlA (w : World) (b1 b4 : Nat) (p : BedP) (W : World) : Prop where
  st : Bx W b1 aS p
  fd : W.cell? ⟨b4, 0, none⟩ = some (.int .i64 1) ∧ W.cell? ⟨b4, 1, none⟩ = some (.bool false) ∧ W.cell? ⟨b4, 2, none⟩ = some (.int .i64 3)
  lo : Below w.heap.size w W
theorem AlA.below {w W W' : World} {b1 b4 : Nat} {p : BedP} (h : AlA w b1 b4 p W) (hb : Below W.heap.size W W') : AlA w b1 b4 p W' := ⟨h.st.to hb, fdBox_keep h.fd hb (lt_of_cell h.fd.1), h.lo.trans (hb.mono h.lo.size)⟩
theorem AlA.cells {w W : World} {b1 b4 : Nat} {p : BedP} (h : AlA w b1 b4 p W) : W.cell? ⟨b1, 0, none⟩ = some (.int .i64 0) ∧ W.cell? ⟨b1, 1, none⟩ = some (.slice p.ah 2 p.ch) ∧ W.cell? ⟨b1, 2, none⟩ = some (.slice p.af 1 p.cf) ∧ W.cell? ⟨b1, 3, none⟩ = some (.slice p.am 2 p.cm) := h.st.cells
structure AlB (w : World) (b1 b4 b7 : Nat) (p q : BedP) (W : World) : Prop where
  a : AlA w b1 b4 p W
  st : Bx W b7 tS q
theorem AlB.below {w W W' : World} {b1 b4 b7 : Nat} {p q : BedP} (h : AlB w b1 b4 b7 p q W) (hb : Below W.heap.size W W') : AlB w b1 b4 b7 p q W' := ⟨h.a.below hb, h.st.to hb⟩
theorem AlB.cells {w W : World} {b1 b4 b7 : Nat} {p q : BedP} (h : AlB w b1 b4 b7 p q W) : W.cell? ⟨b7, 0, none⟩ = some (.int .i64 0) ∧ W.cell? ⟨b7, 1, none⟩ = some (.slice q.ah 2 q.ch) ∧ W.cell? ⟨b7, 2, none⟩ = some (.slice q.af 1 q.cf) ∧ W.cell? ⟨b7, 3, none⟩ = some (.slice q.am 3 q.cm) := h.st.cells
theorem tS_last {W : World} {b7 : Nat} {q : BedP} (h : Bx W b7 tS q) : ∃ b off A C, q.am = some ⟨b, off, none⟩ ∧ W.cell? ⟨b, off + 2 * 4, none⟩ = some (.slice A 1 C) ∧ SlI W W.heap.size A [1] := by
  obtain ⟨b, off, r, A, C, e, _, hr, h0, _, _, _, _, hs⟩ := h.state.made.at_ (k := 2) (by decide)
  have : r = ⟨[1], 0, 1, 1⟩ := by simpa [tS] using hr.symm
  subst this
  exact ⟨b, off, A, C, e, h0, hs⟩
theorem al_a {w W wd : World} {b1 b4 lo : Nat} {p q : BedP} (h : AlA w b1 b4 p W) (hb : Below W.heap.size W wd) (hf : BedFr lo wd q tS) : AlB w b1 b4 wd.heap.size p q (wd.alloc (bedBox tS q)) :=
  ⟨h.below (hb.alloc hb.size _), Bx.new hf.at_⟩
theorem al_b {w W wd : World} {b1 b4 lo bz : Nat} {p q : BedP} (h : AlA w b1 b4 p W) (hb : Below W.heap.size W wd) (hf : BedFr lo wd q tS) (hz : bz < lo) (hle : W.heap.size ≤ bz) (hc : BdIn wd bz bed0 bedP0) : AlB w b1 b4 bz p q (BdIn.set wd bz tS q) :=
  ⟨h.below (BdIn.kept hb hle _ _), Bx.set hf hz hc⟩
theorem al_c {w W wd : World} {b1 b4 b7 : Nat} {p q : BedP} (o : Obj) (h : AlB w b1 b4 b7 p q W) (hb : Below W.heap.size W wd) : AlB w b1 b4 b7 p q (wd.alloc o) := h.below (hb.alloc hb.size _)
theorem al_d {w W wd : World} {b1 b4 b7 bz : Nat} {p q q' : BedP} {t : BedS} (h : AlB w b1 b4 b7 p q W) (hb : Below W.heap.size W wd) (hle : W.heap.size ≤ bz) : AlB w b1 b4 b7 p q (BdIn.set wd bz t q') := h.below (BdIn.kept hb hle _ _)
theorem zero_at (w : World) {wd : World} {B : Nat} (hb : Below B (w.alloc bedZero) wd) (hB : w.heap.size < B) : BdIn wd w.heap.size bed0 bedP0 ∧ ∀ k, wd.frozen? ⟨w.heap.size, k, none⟩ = false :=
  ⟨(BdIn.zero w).below hb hB, fun k => (Below.frozen hb (p := ⟨w.heap.size, k, none⟩) hB).trans (thawed_new' _ _ _ k rfl)⟩
theorem same1 (A A' : Option Addr) (c c' : Nat) (x : Int) (w : World) (h : SlI w w.heap.size A [x]) (h' : SlI w w.heap.size A' [x]) :
    Calls Try.prog 17 #[.slice A 1 c, .slice A' 1 c'] w fun e w' => e = .returned (.bool true) ∧ ∃ m, w' = w.drewN m := sameQ_any A A' c c' [x] w h h' (by simp)
theorem al_z {W wk wd : World} (hbk : Below (W.alloc bedZero).drew.heap.size (W.alloc bedZero).drew wk) (hbd : Below wk.heap.size wk wd) : BdIn wd W.heap.size bed0 bedP0 := by
  have h1 : Below (W.heap.size + 1) (W.alloc bedZero) wk := ((Below.refl _ _).drew).trans (hbk.mono (by simp))
  exact (zero_at W (h1.trans (hbd.mono (by have := h1.size; simp at this; omega))) (by omega)).1
set_option maxHeartbeats 16000000 in
theorem alive_any (w : World) : Calls Try.prog 30 #[] w fun e w' => e = .returned (.bool true) ∧ Below w.heap.size w w' := by
  have HK := Lib.hid (fun r n w => kn_any r n w)
  have al : ∀ (W : World) (o : Obj), Below W.heap.size W (W.alloc o) := fun W o => (Below.refl _ W).alloc (Nat.le_refl _) o
  have HAl := Lib.hid al
  clear al
  go_enter Try.func30, Try.ntmps30
  go_wp2_with fail
  refine (begin_any _).mono ?_
  rintro e w1 ⟨A1, c1, rfl, hs1, -, hb1⟩
  go_wp2_with fail
  refine (brun0 A1 c1 _ hs1).mono ?_
  rintro e w2 ⟨p, rfl, hs2, hb2⟩
  simp only [aS]
  have HB2 := Lib.hid (hb1.trans (hb2.mono hb1.size))
  have hx : Bx (w2.alloc (bedBox aS p)) w2.heap.size aS p := Bx.new hs2.at_
  have HX0 := Lib.hid hx
  clear hs1 hb1 hb2 hs2 hx
  go_wp2_with fail
  refine (feedA p _ HX0.out.state).mono ?_
  rintro e w3 ⟨rfl, hb3⟩
  have HX3 := Lib.hid (HX0.out.to hb3)
  have HB3 := Lib.hid (HB2.out.trans (((HAl.out w2 (bedBox aS p)).trans (hb3.mono (by simp))).mono HB2.out.size))
  clear hb3 HX0 HB2
  go_upto_region 3 with fail
  refine abs_world (Q := fun W => Code.wp _ _ _ _ W) (F := AlA w w2.heap.size w3.heap.size p) _ ?_ ?_
  · exact ⟨HX3.out.to (HAl.out w3 _), ⟨cell_new rfl rfl rfl, cell_new rfl rfl rfl, cell_new rfl rfl rfl⟩, HB3.out.alloc HB3.out.size _⟩
  clear HX3 HB3
  intro W hW
  have HW := Lib.hid hW
  have hs0 := hW.cells
  have HS0 : Hid (_ ∧ _ ∧ _ ∧ _ ∧ Below W.heap.size W W) := ⟨hs0.1, hs0.2.1, hs0.2.2.1, hs0.2.2.2, Below.refl _ _⟩
  have HD := Lib.hid (fun W' (hb : Below W.heap.size W W') => bdoA1 p W' (HW.out.below hb).st.state)
  have hb0 : Below W.heap.size W W.drew := (Below.refl _ _).drew
  have HSb : Hid (∀ W', Below W.heap.size W W' → W'.cell? ⟨w2.heap.size, 0, none⟩ = some (.int .i64 0) ∧ W'.cell? ⟨w2.heap.size, 1, none⟩ = some (.slice p.ah 2 p.ch) ∧ W'.cell? ⟨w2.heap.size, 2, none⟩ = some (.slice p.af 1 p.cf) ∧ W'.cell? ⟨w2.heap.size, 3, none⟩ = some (.slice p.am 2 p.cm) ∧ Below W.heap.size W W') := fun W' hb => by
    have h := (HW.out.below hb).cells
    exact ⟨h.1, h.2.1, h.2.2.1, h.2.2.2, hb⟩
  have HBa : Hid (∀ X o, Below W.heap.size W X → Below W.heap.size W (X.alloc o)) := fun X o h => h.alloc h.size o
  have HBs : Hid (∀ (X : World) (b : Nat) (x0 x1 x2 x3 : Value), W.heap.size ≤ b → Below W.heap.size W X → Below W.heap.size W ((((X.setCell ⟨b, 0, none⟩ x0).setCell ⟨b, 1, none⟩ x1).setCell ⟨b, 2, none⟩ x2).setCell ⟨b, 3, none⟩ x3)) := fun X b x0 x1 x2 x3 hz h => (((h.setCell (p := ⟨b, 0, none⟩) hz _).setCell (p := ⟨b, 1, none⟩) hz _).setCell (p := ⟨b, 2, none⟩) hz _).setCell (p := ⟨b, 3, none⟩) hz _
  have HBd : Hid (∀ o, Below W.heap.size W (W.alloc o).drew) := fun o => ((Below.refl _ W).alloc (Nat.le_refl _) o).drew
  clear hW hs0 HS0
  go_cut [7, 8] (fun s7 s8 wr => ∃ (b7 : Nat) (q : BedP), s7 = .pointer (some ⟨b7, 0, none⟩) ∧ s8 = .int .i64 0 ∧ Hid (AlB w w2.heap.size w3.heap.size b7 p q wr))
  case first =>
    go_region_held3 (fun W' => W'.cell? ⟨w2.heap.size, 0, none⟩ = some (.int .i64 0) ∧ W'.cell? ⟨w2.heap.size, 1, none⟩ = some (.slice p.ah 2 p.ch) ∧ W'.cell? ⟨w2.heap.size, 2, none⟩ = some (.slice p.af 1 p.cf) ∧ W'.cell? ⟨w2.heap.size, 3, none⟩ = some (.slice p.am 2 p.cm) ∧ Below W.heap.size W W')
      (first | (with_reducible exact HSb.out _ (by assumption)) | (with_reducible exact HSb.out _ (HBa.out _ _ (by assumption))) | (with_reducible exact HSb.out _ (HBd.out _)) | (with_reducible exact HSb.out _ (HBs.out _ _ _ _ _ _ (by omega) (by assumption))) | fail)
      (first | (go_at_call 29; have hp := keepB5 (by assumption); refine (HK.out false 1 _).mono ?_; rintro e wk ⟨rfl, hbk⟩; have hbw := hp.trans (hbk.mono hp.size); clear hp; have hk1 := hbk.size; (try simp at hk1); (try have hk3 : W.heap.size < wk.heap.size := by omega); obtain ⟨hkc, hkf⟩ := bcell2 hbk) | (go_at_call 18; have hp := keepB5 (by assumption); refine (HD.out _ hp).mono ?_; rintro e wd ⟨q, rfl, hsd, hbd⟩; have hbw2 := hp.trans (hbd.mono hp.size); clear hp; simp only [tS]; obtain ⟨hdc, hdf⟩ := bcell2 hbd; have hd1 := hbd.size; (try simp at hd1)))
    all_goals
      go_wp2_with fail
      go_meet
    · exact ⟨_, q, rfl, rfl, al_a HW.out hbw2 hsd⟩
    · exact ⟨_, q, rfl, rfl, al_b HW.out hbw2 hsd (by simp) (by omega) ((zero_at _ hbd (by simp)).1)⟩
    · exact ⟨_, q, rfl, rfl, al_b HW.out hbw2 hsd hk3 (by omega) (al_z hbk hbd)⟩
  case rest =>
    obtain ⟨b7, q, rfl, rfl, HB⟩ := hcut
    clear HD HSb HBa HBs HBd HW
    have hlt := HB.out.a.st.lt
    go_upto_region 4 with fail
    have HD := Lib.hid (fun W' (hb : Below wc.heap.size wc W') => bdoA2 p W' (HB.out.below hb).a.st.state)
    have hb0 : Below wc.heap.size wc wc.drew := (Below.refl _ _).drew
    have HSb : Hid (∀ W', Below wc.heap.size wc W' → W'.cell? ⟨w2.heap.size, 0, none⟩ = some (.int .i64 0) ∧ W'.cell? ⟨w2.heap.size, 1, none⟩ = some (.slice p.ah 2 p.ch) ∧ W'.cell? ⟨w2.heap.size, 2, none⟩ = some (.slice p.af 1 p.cf) ∧ W'.cell? ⟨w2.heap.size, 3, none⟩ = some (.slice p.am 2 p.cm) ∧ Below wc.heap.size wc W') := fun W' hb => by
      have h := (HB.out.below hb).a.cells
      exact ⟨h.1, h.2.1, h.2.2.1, h.2.2.2, hb⟩
    have HBa : Hid (∀ X o, Below wc.heap.size wc X → Below wc.heap.size wc (X.alloc o)) := fun X o h => h.alloc h.size o
    have HBs : Hid (∀ (X : World) (b : Nat) (x0 x1 x2 x3 : Value), wc.heap.size ≤ b → Below wc.heap.size wc X → Below wc.heap.size wc ((((X.setCell ⟨b, 0, none⟩ x0).setCell ⟨b, 1, none⟩ x1).setCell ⟨b, 2, none⟩ x2).setCell ⟨b, 3, none⟩ x3)) := fun X b x0 x1 x2 x3 hz h => (((h.setCell (p := ⟨b, 0, none⟩) hz _).setCell (p := ⟨b, 1, none⟩) hz _).setCell (p := ⟨b, 2, none⟩) hz _).setCell (p := ⟨b, 3, none⟩) hz _
    have HBd : Hid (∀ o, Below wc.heap.size wc (wc.alloc o).drew) := fun o => ((Below.refl _ wc).alloc (Nat.le_refl _) o).drew
    go_cut [10] (fun s10 wr => s10 = .int .i64 36 ∧ Hid (AlB w w2.heap.size w3.heap.size b7 p q wr))
    case first =>
      go_region_held3 (fun W' => W'.cell? ⟨w2.heap.size, 0, none⟩ = some (.int .i64 0) ∧ W'.cell? ⟨w2.heap.size, 1, none⟩ = some (.slice p.ah 2 p.ch) ∧ W'.cell? ⟨w2.heap.size, 2, none⟩ = some (.slice p.af 1 p.cf) ∧ W'.cell? ⟨w2.heap.size, 3, none⟩ = some (.slice p.am 2 p.cm) ∧ Below wc.heap.size wc W')
        (first | (with_reducible exact HSb.out _ (by assumption)) | (with_reducible exact HSb.out _ (HBa.out _ _ (by assumption))) | (with_reducible exact HSb.out _ (HBd.out _)) | (with_reducible exact HSb.out _ (HBs.out _ _ _ _ _ _ (by omega) (by assumption))) | fail)
        (first | (go_at_call 29; have hp := keepB5 (by assumption); refine (HK.out true 1 _).mono ?_; rintro e wk ⟨rfl, hbk⟩; have hbw := hp.trans (hbk.mono hp.size); clear hp; have hk1 := hbk.size; (try simp at hk1); (try have hk3 : wc.heap.size < wk.heap.size := by omega); obtain ⟨hkc, hkf⟩ := bcell2 hbk) | (go_at_call 18; have hp := keepB5 (by assumption); refine (HD.out _ hp).mono ?_; rintro e wd ⟨q2, rfl, hsd, hbd⟩; have hbw2 := hp.trans (hbd.mono hp.size); clear hp; simp only [bed0]; obtain ⟨hdc, hdf⟩ := bcell2 hbd; have hd1 := hbd.size; (try simp at hd1)))
      all_goals
        go_wp2_with fail
        go_meet
      · exact ⟨rfl, al_c _ HB.out hbw2⟩
      · exact ⟨rfl, al_d (t := bed0) (q' := q2) HB.out hbw2 (by omega)⟩
      · exact ⟨rfl, al_d (t := bed0) (q' := q2) HB.out hbw2 (by omega)⟩
    case rest =>
      obtain ⟨rfl, HC⟩ := hcut
      clear HD HSb HBa HBs HBd HB
      obtain ⟨z0, z1, z2, z3⟩ := HC.out.cells
      have hef := fun W => eql_fd W 1 false 3
      go_wp2_with fail
      refine (onA q _ HC.out.st.state).mono ?_
      rintro e w5 ⟨A5, c5, rfl, hs5, hb5⟩
      have HC5 := Lib.hid (HC.out.below hb5)
      have HS5 := Lib.hid hs5
      clear z0 z1 z2 z3 hb5 hs5 HC
      obtain ⟨z0, z1, z2, z3⟩ := HC5.out.cells
      obtain ⟨y0, y1, y2, y3⟩ := HC5.out.a.cells
      obtain ⟨f0, f1, f2⟩ := HC5.out.a.fd
      obtain ⟨lb, lo, A6, C6, hq, hl, hs6⟩ := tS_last HC5.out.st
      have HS6 := Lib.hid hs6
      rw [hq] at z3
      have HQ := Lib.hid hq
      clear hq hs6
      have l1 := lt_of_cell z0
      have l2 := lt_of_cell hl
      go_wp2_with fail
      have ha := HAl.out w5 (.cells #[.int .i64 2] 3)
      refine (same1 A5 _ c5 _ 2 _ ((HS5.out.below ha).more ha.size) (lit_one w5 2 3)).mono ?_
      rintro e w6 ⟨rfl, n, hw6⟩
      have hb6 : Below w5.heap.size w5 w6 := by rw [hw6]; exact below_drewN ha n
      have HC6 := Lib.hid (HC5.out.below hb6)
      have HS7 := Lib.hid ((HS6.out.below hb6).more hb6.size)
      have hl' := (bcell hb6 l2 _).trans hl
      clear ha hw6 hb6 z0 z1 z2 z3 y0 y1 y2 y3 f0 f1 f2 hl l1 l2 HS6 HC5
      obtain ⟨z0, z1, z2, z3⟩ := HC6.out.cells
      rw [HQ.out] at z3
      go_wp2_with fail
      have ha := HAl.out w6 (.cells #[.int .i64 1] 3)
      refine (same1 A6 _ C6 _ 1 _ ((HS7.out.below ha).more ha.size) (lit_one w6 1 3)).mono ?_
      rintro e w7 ⟨rfl, n2, hw7⟩
      have HBl : Hid (Below w.heap.size w w7) := by
        show Below _ _ _
        rw [hw7]
        exact below_drewN (HC6.out.a.lo.alloc HC6.out.a.lo.size _) n2
      clear hw7 ha
      go_wp2
      go_ret
      exact ⟨rfl, HBl.out⟩
end Go.Proofs.Ytjoglkamhjcmhaa
