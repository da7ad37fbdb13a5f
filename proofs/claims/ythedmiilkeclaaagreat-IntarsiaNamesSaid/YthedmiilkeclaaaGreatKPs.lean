/- Layer 30: the chapter's examples hold. Layer 30: the chapter's examples hold: alive. -/
import Derived.Test.YthedmiilkeclaaaGreatKRun
import Derived.Test.YthedmiilkeclaaaGreatKSame
import Derived.Test.YthedmiilkeclaaaGreatKPr
namespace Go.Proofs.YthedmiilkeclaaaGreat
open Go.RowKit Go.Shelf Go.Sort
set_option maxRecDepth 100000

/-- A state in the box b, its lists below the box. -/
structure Bx (W : World) (b : Nat) (s : BedS) (p : BedP) : Prop where
  cells : BdIn W b s p
  state : BedAt W W.heap.size p s
theorem Bx.lt {W : World} {b : Nat} {s : BedS} {p : BedP} (h : Bx W b s p) : b < W.heap.size := lt_of_cell h.cells.1
theorem Bx.to {W W' : World} {b : Nat} {s : BedS} {p : BedP} (h : Bx W b s p) (hb : Below W.heap.size W W') : Bx W' b s p := ⟨h.cells.below hb h.lt, (h.state.below hb).more hb.size⟩
theorem Bx.new {w : World} {s : BedS} {p : BedP} (h : BedAt w w.heap.size p s) : Bx (w.alloc (bedBox s p)) w.heap.size s p := ⟨BdIn.new w s p, (h.below ((Below.refl _ w).alloc (Nat.le_refl _) _)).more (by simp)⟩
/-- Stored into a box that was there before the lists were made. -/
theorem Bx.set {W : World} {lo b : Nat} {s t : BedS} {p q : BedP} (h : BedFr lo W p s) (hb : b < lo) (hc : BdIn W b t q) : Bx (BdIn.set W b s p) b s p := ⟨hc.stored s p, (h.sets hb).at_⟩

def knB (right : Bool) (n : Int) : Ins := ⟨3, right, 0, n, 0, 1, 0⟩
def beginL : List Ins := [⟨1, false, 0, 0, 0, 1, 0⟩, knB true 0, knB true 1]
def aS : BedS := ⟨0, [⟨0, 0, [0]⟩, ⟨0, 1, [1]⟩], [⟨1, false, 3⟩], [⟨[], 0, 0, 1⟩, ⟨[], 0, 1, 1⟩]⟩
def tS : BedS := ⟨0, [⟨0, 0, [0]⟩, ⟨0, 1, [2]⟩], [⟨1, false, 1⟩], [⟨[], 0, 0, 1⟩, ⟨[], 0, 1, 1⟩, ⟨[1], 0, 1, 1⟩]⟩
theorem al_run : runS bed0 beginL = (aS, 3, 0) := by kernel_rfl
theorem al_do1 : doS aS (knB false 1) = (tS, 0) := by kernel_rfl
theorem al_do2 : doS aS (knB true 1) = (bed0, 36) := by kernel_rfl
theorem al_on : onR tS 0 1 = ([2], 0) := by kernel_rfl
theorem al_feed : feedR aS 1 = (⟨1, false, 3⟩, true, 0) := by kernel_rfl
theorem aS_wf : aS.wf := ⟨fun h hh => by
  simp only [aS, List.mem_cons, List.not_mem_nil, or_false] at hh
  rcases hh with rfl | rfl <;> exact ⟨by decide, by decide⟩, fun h hh => by
  simp only [aS, List.mem_cons, List.not_mem_nil, or_false] at hh
  rcases hh with rfl | rfl <;> exact ⟨by decide, by decide⟩⟩
theorem tS_wf : tS.wf := ⟨fun h hh => by
  simp only [tS, List.mem_cons, List.not_mem_nil, or_false] at hh
  rcases hh with rfl | rfl <;> exact ⟨by decide, by decide⟩, fun h hh => by
  simp only [tS, List.mem_cons, List.not_mem_nil, or_false] at hh
  rcases hh with rfl | rfl | rfl <;> exact ⟨by decide, by decide⟩⟩
theorem bed0_wf : bed0.wf := ⟨fun _ h => absurd h List.not_mem_nil, fun _ h => absurd h List.not_mem_nil⟩
theorem knB_wf (r : Bool) (n : Int) : (knB r n).wf := ⟨by show (0 : Int) ≤ 3; decide, by show (3 : Int) ≤ 255; decide, by show (0 : Int) ≤ 0; decide, by show (0 : Int) ≤ 255; decide⟩
theorem beginL_wf : ∀ i ∈ beginL, i.wf := by
  intro i hi
  simp only [beginL, List.mem_cons, List.not_mem_nil, or_false] at hi
  rcases hi with rfl | rfl | rfl
  · exact ⟨by decide, by decide, by decide, by decide⟩
  · exact knB_wf _ _
  · exact knB_wf _ _
def insOut (l : List Ins) (n : Nat) (w : World) (e : Ending) (w' : World) : Prop := ∃ A c, e = .returned (.slice A n c) ∧ SlX w' w'.heap.size A l ∧ n ≤ c ∧ Below w.heap.size w w'
theorem cells7b (l : List Ins) : ∀ cs ∈ l.map Ins.cells, cs.length = 7 := by
  intro cs h
  obtain ⟨x, _, rfl⟩ := List.mem_map.1 h
  rfl
theorem lit_ins {W : World} {l : List Ins} {cs : Array Value} {t : TypeId} (h : cs.toList = (l.map Ins.cells).flatten) (hl : l.length ≤ maxLen) : SlX (W.alloc (.cells cs t)) (W.alloc (.cells cs t)).heap.size (some ⟨W.heap.size, 0, none⟩) l := by
  have ho := World.ownsRow_lit (base := W.heap.size) (e := t) (size := 7) W cs l.length (Nat.le_refl _) hl (by rw [← Array.length_toList, h, flat_len (cells7b l), List.length_map])
  rw [h] at ho
  exact SlS.of_own (cells7b l) (by rw [List.length_map]) ho
def stOut (s : BedS) (n m k : Nat) (x : Value → Value) (w : World) (e : Ending) (w' : World) : Prop := ∃ p : BedP, e = .returned (x (.agg #[.int .i64 s.rack, .slice p.ah n p.ch, .slice p.af m p.cf, .slice p.am k p.cm])) ∧ BedFr w.heap.size w' p s ∧ Below w.heap.size w w'
theorem brun0 (A : Option Addr) (c : Nat) (w : World) (hx : SlX w w.heap.size A beginL) :
    Calls Tryz.prog 16 #[.agg #[.int .i64 0, .slice none 0 0, .slice none 0 0, .slice none 0 0], .slice A 3 c] w fun e w' => stOut aS 2 1 2 (fun v => .tuple #[v, .int .i64 3, .int .i64 0]) w e w' := by
  have h := brun_any bed0 bedP0 bed0_wf ⟨by decide, by decide, by decide⟩ beginL (by decide) (fun _ _ => by decide) beginL_wf A c w (bedAt0 _ _) hx
  rw [al_run] at h
  exact h
theorem lit_one (W : World) (x : Int) (t : TypeId) : SlI (W.alloc (.cells #[.int .i64 x] t)) (W.alloc (.cells #[.int .i64 x] t)).heap.size (some ⟨W.heap.size, 0, none⟩) [x] := by
  have ho := World.ownsRow_lit (base := W.heap.size) (e := t) (size := 1) W #[.int .i64 x] 1 (Nat.le_refl _) (by decide) rfl
  have h2 := SlS.of_own (zs := [[Value.int .i64 x]]) (fun cs h => by rw [List.mem_singleton.1 h]; rfl) rfl ho
  exact fun hn => by
    obtain ⟨b, off, e, hb, hc⟩ := h2 (by simp)
    refine ⟨b, off, e, hb, fun j r hr => ?_⟩
    have hj : j = 0 := by
      have := (List.getElem?_eq_some_iff.1 hr).1
      simp at this; exact this
    subst hj
    have : r = x := by simpa using hr.symm
    subst this
    have := hc 0 _ rfl 0 _ rfl
    simpa using this
end Go.Proofs.YthedmiilkeclaaaGreat
namespace Go.Proofs.YthedmiilkeclaaaGreat
open Go.RowKit Go.Shelf Go.Sort
set_option maxRecDepth 100000

theorem bcell2 {W w1 : World} {B : Nat} (hb : Below B W w1) : (∀ b o, b < B → w1.cell? ⟨b, o, none⟩ = W.cell? ⟨b, o, none⟩) ∧ (∀ b o, b < B → w1.frozen? ⟨b, o, none⟩ = W.frozen? ⟨b, o, none⟩) :=
  ⟨fun b o h => hb.cell (p := ⟨b, o, none⟩) h, fun b o h => hb.frozen (p := ⟨b, o, none⟩) h⟩
theorem fdBox_keep {W W' : World} {b B : Nat} {v0 v1 v2 : Value} (h : W.cell? ⟨b, 0, none⟩ = some v0 ∧ W.cell? ⟨b, 1, none⟩ = some v1 ∧ W.cell? ⟨b, 2, none⟩ = some v2) (hb : Below B W W') (hB : b < B) : W'.cell? ⟨b, 0, none⟩ = some v0 ∧ W'.cell? ⟨b, 1, none⟩ = some v1 ∧ W'.cell? ⟨b, 2, none⟩ = some v2 :=
  ⟨(bcell hb hB _).trans h.1, (bcell hb hB _).trans h.2.1, (bcell hb hB _).trans h.2.2⟩
/-- What is known in the midst of alive. -/
structure AlA (w : World) (b1 b4 : Nat) (p : BedP) (W : World) : Prop where
  st : Bx W b1 aS p
  fd : W.cell? ⟨b4, 0, none⟩ = some (.int .i64 1) ∧ W.cell? ⟨b4, 1, none⟩ = some (.bool false) ∧ W.cell? ⟨b4, 2, none⟩ = some (.int .i64 3)
  lo : Below w.heap.size w W
theorem AlA.below {w W W' : World} {b1 b4 : Nat} {p : BedP} (h : AlA w b1 b4 p W) (hb : Below W.heap.size W W') : AlA w b1 b4 p W' := ⟨h.st.to hb, fdBox_keep h.fd hb (lt_of_cell h.fd.1), h.lo.trans (hb.mono h.lo.size)⟩
theorem AlA.cells {w W : World} {b1 b4 : Nat} {p : BedP} (h : AlA w b1 b4 p W) : W.cell? ⟨b1, 0, none⟩ = some (.int .i64 0) ∧ W.cell? ⟨b1, 1, none⟩ = some (.slice p.ah 2 p.ch) ∧ W.cell? ⟨b1, 2, none⟩ = some (.slice p.af 1 p.cf) ∧ W.cell? ⟨b1, 3, none⟩ = some (.slice p.am 2 p.cm) := h.st.cells
structure AlB (w : World) (b1 b4 b7 : Nat) (p q : BedP) (W : World) : Prop where
  a : AlA w b1 b4 p W
  st : Bx W b7 tS q
theorem AlB.below {w W W' : World} {b1 b4 b7 : Nat} {p q : BedP} (h : AlB w b1 b4 b7 p q W) (hb : Below W.heap.size W W') : AlB w b1 b4 b7 p q W' := ⟨h.a.below hb, h.st.to hb⟩
theorem AlB.cells {w W : World} {b1 b4 b7 : Nat} {p q : BedP} (h : AlB w b1 b4 b7 p q W) : W.cell? ⟨b7, 0, none⟩ = some (.int .i64 0) ∧ W.cell? ⟨b7, 1, none⟩ = some (.slice q.ah 2 q.ch) ∧ W.cell? ⟨b7, 2, none⟩ = some (.slice q.af 1 q.cf) ∧ W.cell? ⟨b7, 3, none⟩ = some (.slice q.am 3 q.cm) := h.st.cells
theorem tS_last {W : World} {b7 : Nat} {q : BedP} (h : Bx W b7 tS q) : ∃ b off A C, q.am = some ⟨b, off, none⟩ ∧ W.cell? ⟨b, off + 2 * 4, none⟩ = some (.slice A 1 C) ∧ SlI W W.heap.size A [1] := by
  obtain ⟨b, off, r, A, C, e, _, hr, h0, _, _, _, _, hs⟩ := h.state.made.at_ (k := 2) (by decide)
  have : r = ⟨[1], 0, 1, 1⟩ := by simpa [tS] using hr.symm
  subst this
  exact ⟨b, off, A, C, e, h0, hs⟩
theorem al_a {w W wd : World} {b1 b4 lo : Nat} {p q : BedP} (h : AlA w b1 b4 p W) (hb : Below W.heap.size W wd) (hf : BedFr lo wd q tS) : AlB w b1 b4 wd.heap.size p q (wd.alloc (bedBox tS q)) :=
  ⟨h.below (hb.alloc hb.size _), Bx.new hf.at_⟩
theorem al_b {w W wd : World} {b1 b4 lo bz : Nat} {p q : BedP} (h : AlA w b1 b4 p W) (hb : Below W.heap.size W wd) (hf : BedFr lo wd q tS) (hz : bz < lo) (hle : W.heap.size ≤ bz) (hc : BdIn wd bz bed0 bedP0) : AlB w b1 b4 bz p q (BdIn.set wd bz tS q) :=
  ⟨h.below (BdIn.kept hb hle _ _), Bx.set hf hz hc⟩
theorem al_c {w W wd : World} {b1 b4 b7 : Nat} {p q : BedP} (o : Obj) (h : AlB w b1 b4 b7 p q W) (hb : Below W.heap.size W wd) : AlB w b1 b4 b7 p q (wd.alloc o) := h.below (hb.alloc hb.size _)
theorem al_d {w W wd : World} {b1 b4 b7 bz : Nat} {p q q' : BedP} {t : BedS} (h : AlB w b1 b4 b7 p q W) (hb : Below W.heap.size W wd) (hle : W.heap.size ≤ bz) : AlB w b1 b4 b7 p q (BdIn.set wd bz t q') := h.below (BdIn.kept hb hle _ _)
theorem zero_at (w : World) {wd : World} {B : Nat} (hb : Below B (w.alloc bedZero) wd) (hB : w.heap.size < B) : BdIn wd w.heap.size bed0 bedP0 ∧ ∀ k, wd.frozen? ⟨w.heap.size, k, none⟩ = false :=
  ⟨(BdIn.zero w).below hb hB, fun k => (Below.frozen hb (p := ⟨w.heap.size, k, none⟩) hB).trans (thawed_new' _ _ _ k rfl)⟩
theorem same1 (A A' : Option Addr) (c c' : Nat) (x : Int) (w : World) (h : SlI w w.heap.size A [x]) (h' : SlI w w.heap.size A' [x]) :
    Calls Tryz.prog 35 #[.slice A 1 c, .slice A' 1 c'] w fun e w' => e = .returned (.bool true) ∧ ∃ m, w' = w.drewN m := sameQ_any A A' c c' [x] w h h' (by simp)
theorem al_z {W wk wd : World} (hbk : Below (W.alloc bedZero).drew.heap.size (W.alloc bedZero).drew wk) (hbd : Below wk.heap.size wk wd) : BdIn wd W.heap.size bed0 bedP0 := by
  have h1 : Below (W.heap.size + 1) (W.alloc bedZero) wk := ((Below.refl _ _).drew).trans (hbk.mono (by simp))
  exact (zero_at W (h1.trans (hbd.mono (by have := h1.size; simp at this; omega))) (by omega)).1
end Go.Proofs.YthedmiilkeclaaaGreat
