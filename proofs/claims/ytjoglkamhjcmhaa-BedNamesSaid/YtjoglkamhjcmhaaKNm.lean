/- BedNames: what its calls hand back. -/
import Derived.Test.YtjoglkamhjcmhaaKPs
import Derived.Test.YtjoglkamhjcmhaaKRunP
import Derived.Test.YtjoglkamhjcmhaaKElse2
namespace Go.Proofs.Ytjoglkamhjcmhaa
open Go.RowKit Go.Shelf Go.Sort
set_option maxRecDepth 100000

def badL : List Ins := [⟨0, false, 0, 0, 0, 0, 0⟩, ⟨10, false, 0, 0, 0, 0, 0⟩, ⟨1, false, 0, 0, 0, 0, 0⟩, ⟨1, false, 0, 0, 0, 7, 0⟩, ⟨3, false, 0, 101, 0, 1, 0⟩, ⟨3, false, 0, 0, 1, 1, 0⟩, ⟨7, false, 0, 0, 0, 1, 0⟩, ⟨8, false, 0, 0, 0, 0, 9⟩, ⟨9, false, 2, 0, 0, 0, 0⟩, ⟨2, true, 0, 0, 0, 1, 0⟩, ⟨6, false, 0, 0, 0, 1, 1⟩]
def nameL : List Ins := [⟨1, false, 0, 0, 0, 1, 0⟩, ⟨3, true, 0, 0, 0, 1, 0⟩, ⟨3, true, 0, 1, 0, 1, 0⟩, ⟨8, false, 0, 0, 0, 0, 1⟩, ⟨7, false, 0, 1, 0, 0, 0⟩]
def nS : BedS := ⟨1, [⟨0, 0, [0]⟩, ⟨1, 0, [1]⟩], [⟨1, false, 3⟩], [⟨[], 0, 0, 1⟩, ⟨[], 0, 1, 1⟩]⟩
def ntS : BedS := ⟨1, [⟨0, 0, [0]⟩, ⟨0, 1, [1]⟩, ⟨1, 0, [2]⟩], [⟨1, false, 1⟩], [⟨[], 0, 0, 1⟩, ⟨[], 0, 1, 1⟩, ⟨[1], 1, 0, 1⟩]⟩
def r9S : BedS := ⟨9, [], [], []⟩
def tuI (k : Nat) : Ins := ⟨4, decide ((k : Int) % 2 = 0), 0, 0, 0, 1, 0⟩
def fullL (k : Nat) : List Ins := ⟨1, false, 0, 0, 0, 1, 0⟩ :: (List.range k).map tuI
def fS : BedS := ⟨0, [⟨0, 0, [0, 1, 2, 3, 4, 5]⟩], [⟨1, false, -1⟩], [⟨[], 0, 0, 1⟩, ⟨[], 0, 0, 1⟩, ⟨[], 0, 0, 1⟩, ⟨[], 0, 0, 1⟩, ⟨[], 0, 0, 1⟩, ⟨[], 0, 0, 1⟩]⟩
def fT : BedS := ⟨0, [⟨0, 0, [6]⟩], [⟨1, false, 1⟩], [⟨[], 0, 0, 1⟩, ⟨[], 0, 0, 1⟩, ⟨[], 0, 0, 1⟩, ⟨[], 0, 0, 1⟩, ⟨[], 0, 0, 1⟩, ⟨[], 0, 0, 1⟩, ⟨[0, 1, 2, 3, 4, 5], 0, 0, 1⟩]⟩
theorem wf_of {s : BedS} (h1 : s.hooks.all (fun h => decide (0 ≤ h.bed ∧ h.bed ≤ 255)) = true) (h2 : s.made.all (fun m => decide (0 ≤ m.bed ∧ m.bed ≤ 255)) = true) : s.wf :=
  ⟨fun h hh => by have := of_decide_eq_true (List.all_eq_true.1 h1 h hh); exact this, fun m hm => by have := of_decide_eq_true (List.all_eq_true.1 h2 m hm); exact this⟩
theorem wfs_of {l : List Ins} (h : l.all (fun i => decide (0 ≤ i.op ∧ i.op ≤ 255 ∧ 0 ≤ i.bed ∧ i.bed ≤ 255)) = true) : ∀ i ∈ l, i.wf := fun i hi => by have := of_decide_eq_true (List.all_eq_true.1 h i hi); exact this
theorem nS_wf : nS.wf := wf_of (by kernel_rfl) (by kernel_rfl)
theorem ntS_wf : ntS.wf := wf_of (by kernel_rfl) (by kernel_rfl)
theorem r9S_wf : r9S.wf := wf_of (by kernel_rfl) (by kernel_rfl)
theorem fS_wf : fS.wf := wf_of (by kernel_rfl) (by kernel_rfl)
theorem fT_wf : fT.wf := wf_of (by kernel_rfl) (by kernel_rfl)
theorem nm_run : runS bed0 nameL = (nS, 5, 0) := by kernel_rfl
theorem fl_run : runS bed0 (fullL 6) = (fS, 7, 0) := by kernel_rfl
theorem badL_wf : ∀ i ∈ badL, i.wf := wfs_of (by kernel_rfl)
theorem nameL_wf : ∀ i ∈ nameL, i.wf := wfs_of (by kernel_rfl)
theorem fullL_wf : ∀ i ∈ fullL 6, i.wf := wfs_of (by kernel_rfl)
theorem good0' : Good bed0 := Good.of (by kernel_rfl) ⟨fun _ h => absurd h List.not_mem_nil, fun _ h => absurd h List.not_mem_nil⟩
theorem bad_all : badL.all (fun i => decide (i.err = 8)) = true := by kernel_rfl
theorem bad_err {i : Ins} (h : i ∈ badL) : i.err = 8 ∧ doS bed0 i = (bed0, 8) := by
  have h1 : i.err = 8 := of_decide_eq_true (List.all_eq_true.1 bad_all i h)
  refine ⟨h1, ?_⟩
  unfold doS
  rw [if_neg (by rw [good0'.err]; simp), if_pos (by rw [h1]; decide), h1]
theorem nDo10 (p : BedP) (w : World) (hs : BedAt w w.heap.size p nS) :
    Calls Try.prog 18 #[.agg #[.int .i64 1, .slice p.ah 2 p.ch, .slice p.af 1 p.cf, .slice p.am 2 p.cm], .agg #[.int .u8 7, .bool false, .int .u8 0, .int .i64 0, .int .i64 0, .int .i64 0, .int .i64 0]] w fun e w' => stOut bed0 0 0 0 (fun v => .tuple #[v, .int .i64 36]) w e w' := by
  have h := bdo_any nS p nS_wf ⟨by decide, by decide, by decide⟩ (fun _ => by decide) ⟨7, false, 0, 0, 0, 0, 0⟩ ⟨by decide, by decide, by decide, by decide⟩ w hs
  rw [show doS nS ⟨7, false, 0, 0, 0, 0, 0⟩ = (bed0, 36) by kernel_rfl] at h
  exact h
theorem nDo11 (p : BedP) (w : World) (hs : BedAt w w.heap.size p nS) :
    Calls Try.prog 18 #[.agg #[.int .i64 1, .slice p.ah 2 p.ch, .slice p.af 1 p.cf, .slice p.am 2 p.cm], .agg #[.int .u8 1, .bool false, .int .u8 0, .int .i64 0, .int .i64 0, .int .i64 1, .int .i64 0]] w fun e w' => stOut bed0 0 0 0 (fun v => .tuple #[v, .int .i64 36]) w e w' := by
  have h := bdo_any nS p nS_wf ⟨by decide, by decide, by decide⟩ (fun _ => by decide) ⟨1, false, 0, 0, 0, 1, 0⟩ ⟨by decide, by decide, by decide, by decide⟩ w hs
  rw [show doS nS ⟨1, false, 0, 0, 0, 1, 0⟩ = (bed0, 36) by kernel_rfl] at h
  exact h
theorem nDo12 (p : BedP) (w : World) (hs : BedAt w w.heap.size p nS) :
    Calls Try.prog 18 #[.agg #[.int .i64 1, .slice p.ah 2 p.ch, .slice p.af 1 p.cf, .slice p.am 2 p.cm], .agg #[.int .u8 2, .bool false, .int .u8 0, .int .i64 0, .int .i64 0, .int .i64 2, .int .i64 0]] w fun e w' => stOut bed0 0 0 0 (fun v => .tuple #[v, .int .i64 36]) w e w' := by
  have h := bdo_any nS p nS_wf ⟨by decide, by decide, by decide⟩ (fun _ => by decide) ⟨2, false, 0, 0, 0, 2, 0⟩ ⟨by decide, by decide, by decide, by decide⟩ w hs
  rw [show doS nS ⟨2, false, 0, 0, 0, 2, 0⟩ = (bed0, 36) by kernel_rfl] at h
  exact h
theorem nDo13 (p : BedP) (w : World) (hs : BedAt w w.heap.size p nS) :
    Calls Try.prog 18 #[.agg #[.int .i64 1, .slice p.ah 2 p.ch, .slice p.af 1 p.cf, .slice p.am 2 p.cm], .agg #[.int .u8 4, .bool true, .int .u8 0, .int .i64 0, .int .i64 0, .int .i64 2, .int .i64 0]] w fun e w' => stOut bed0 0 0 0 (fun v => .tuple #[v, .int .i64 36]) w e w' := by
  have h := bdo_any nS p nS_wf ⟨by decide, by decide, by decide⟩ (fun _ => by decide) ⟨4, true, 0, 0, 0, 2, 0⟩ ⟨by decide, by decide, by decide, by decide⟩ w hs
  rw [show doS nS ⟨4, true, 0, 0, 0, 2, 0⟩ = (bed0, 36) by kernel_rfl] at h
  exact h
theorem nDo14 (p : BedP) (w : World) (hs : BedAt w w.heap.size p nS) :
    Calls Try.prog 18 #[.agg #[.int .i64 1, .slice p.ah 2 p.ch, .slice p.af 1 p.cf, .slice p.am 2 p.cm], .agg #[.int .u8 6, .bool false, .int .u8 1, .int .i64 0, .int .i64 1, .int .i64 1, .int .i64 0]] w fun e w' => stOut ntS 3 1 3 (fun v => .tuple #[v, .int .i64 0]) w e w' := by
  have h := bdo_any nS p nS_wf ⟨by decide, by decide, by decide⟩ (fun _ => by decide) ⟨6, false, 1, 0, 1, 1, 0⟩ ⟨by decide, by decide, by decide, by decide⟩ w hs
  rw [show doS nS ⟨6, false, 1, 0, 1, 1, 0⟩ = (ntS, 0) by kernel_rfl] at h
  exact h
theorem fDo7 (p : BedP) (w : World) (hs : BedAt w w.heap.size p fS) :
    Calls Try.prog 18 #[.agg #[.int .i64 0, .slice p.ah 1 p.ch, .slice p.af 1 p.cf, .slice p.am 6 p.cm], .agg #[.int .u8 4, .bool true, .int .u8 0, .int .i64 0, .int .i64 0, .int .i64 1, .int .i64 0]] w fun e w' => stOut bed0 0 0 0 (fun v => .tuple #[v, .int .i64 36]) w e w' := by
  have h := bdo_any fS p fS_wf ⟨by decide, by decide, by decide⟩ (fun _ => by decide) ⟨4, true, 0, 0, 0, 1, 0⟩ ⟨by decide, by decide, by decide, by decide⟩ w hs
  rw [show doS fS ⟨4, true, 0, 0, 0, 1, 0⟩ = (bed0, 36) by kernel_rfl] at h
  exact h
theorem fDo8 (p : BedP) (w : World) (hs : BedAt w w.heap.size p fS) :
    Calls Try.prog 18 #[.agg #[.int .i64 0, .slice p.ah 1 p.ch, .slice p.af 1 p.cf, .slice p.am 6 p.cm], .agg #[.int .u8 3, .bool true, .int .u8 0, .int .i64 0, .int .i64 0, .int .i64 1, .int .i64 0]] w fun e w' => stOut fT 1 1 7 (fun v => .tuple #[v, .int .i64 0]) w e w' := by
  have h := bdo_any fS p fS_wf ⟨by decide, by decide, by decide⟩ (fun _ => by decide) ⟨3, true, 0, 0, 0, 1, 0⟩ ⟨by decide, by decide, by decide, by decide⟩ w hs
  rw [show doS fS ⟨3, true, 0, 0, 0, 1, 0⟩ = (fT, 0) by kernel_rfl] at h
  exact h
theorem nDo16 (w : World) :
    Calls Try.prog 18 #[.agg #[.int .i64 9, .slice none 0 0, .slice none 0 0, .slice none 0 0], .agg #[.int .u8 3, .bool true, .int .u8 0, .int .i64 0, .int .i64 0, .int .i64 1, .int .i64 0]] w fun e w' => stOut bed0 0 0 0 (fun v => .tuple #[v, .int .i64 8]) w e w' := by
  have h := bdo_any r9S bedP0 r9S_wf ⟨by decide, by decide, by decide⟩ (fun _ => by decide) ⟨3, true, 0, 0, 0, 1, 0⟩ ⟨by decide, by decide, by decide, by decide⟩ w ⟨fun h => absurd rfl h, fun h => absurd rfl h, fun h => absurd rfl h⟩
  rw [show doS r9S ⟨3, true, 0, 0, 0, 1, 0⟩ = (bed0, 8) by kernel_rfl] at h
  exact h
theorem nOn9 (p : BedP) (w : World) (hs : BedAt w w.heap.size p nS) :
    Calls Try.prog 13 #[.agg #[.int .i64 1, .slice p.ah 2 p.ch, .slice p.af 1 p.cf, .slice p.am 2 p.cm], .int .u8 1, .int .i64 0] w fun e w' => ∃ A c, e = .returned (.tuple #[.slice A 1 c, .int .i64 0]) ∧ SlI w' w'.heap.size A [1] ∧ Below w.heap.size w w' := by
  have h := on_any nS p nS_wf ⟨by decide, by decide, by decide⟩ 1 0 (by decide) w hs
  unfold onOut at h
  rw [show onR nS 1 0 = ([1], 0) by kernel_rfl] at h
  exact h
theorem nOn15 (p : BedP) (w : World) (hs : BedAt w w.heap.size p ntS) :
    Calls Try.prog 13 #[.agg #[.int .i64 1, .slice p.ah 3 p.ch, .slice p.af 1 p.cf, .slice p.am 3 p.cm], .int .u8 0, .int .i64 1] w fun e w' => ∃ A c, e = .returned (.tuple #[.slice A 1 c, .int .i64 0]) ∧ SlI w' w'.heap.size A [1] ∧ Below w.heap.size w w' := by
  have h := on_any ntS p ntS_wf ⟨by decide, by decide, by decide⟩ 0 1 (by decide) w hs
  unfold onOut at h
  rw [show onR ntS 0 1 = ([1], 0) by kernel_rfl] at h
  exact h
theorem nOn17 (p : BedP) (w : World) (hs : BedAt w w.heap.size p nS) :
    Calls Try.prog 13 #[.agg #[.int .i64 1, .slice p.ah 2 p.ch, .slice p.af 1 p.cf, .slice p.am 2 p.cm], .int .u8 2, .int .i64 0] w fun e w' => ∃ A c, e = .returned (.tuple #[.slice A 0 c, .int .i64 2]) ∧ SlI w' w'.heap.size A [] ∧ Below w.heap.size w w' := by
  have h := on_any nS p nS_wf ⟨by decide, by decide, by decide⟩ 2 0 (by decide) w hs
  unfold onOut at h
  rw [show onR nS 2 0 = ([], 2) by kernel_rfl] at h
  exact h
theorem nOn18 (p : BedP) (w : World) (hs : BedAt w w.heap.size p nS) :
    Calls Try.prog 13 #[.agg #[.int .i64 1, .slice p.ah 2 p.ch, .slice p.af 1 p.cf, .slice p.am 2 p.cm], .int .u8 0, .int .i64 101] w fun e w' => ∃ A c, e = .returned (.tuple #[.slice A 0 c, .int .i64 2]) ∧ SlI w' w'.heap.size A [] ∧ Below w.heap.size w w' := by
  have h := on_any nS p nS_wf ⟨by decide, by decide, by decide⟩ 0 101 (by decide) w hs
  unfold onOut at h
  rw [show onR nS 0 101 = ([], 2) by kernel_rfl] at h
  exact h
theorem nFeed19 (p : BedP) (w : World) (hs : BedAt w w.heap.size p nS) :
    Calls Try.prog 15 #[.agg #[.int .i64 1, .slice p.ah 2 p.ch, .slice p.af 1 p.cf, .slice p.am 2 p.cm], .int .i64 0] w fun e w' => e = .returned (.tuple #[.agg #[.int .i64 0, .bool false, .int .i64 0], .bool false, .int .i64 2]) ∧ Below w.heap.size w w' := by
  have h := feed_any nS p nS_wf ⟨by decide, by decide, by decide⟩ 0 w hs
  unfold feedOut at h
  rw [show feedR nS 0 = (defF, false, 2) by kernel_rfl] at h
  exact h
def twoL : List Ins := [⟨1, false, 0, 0, 0, 1, 0⟩, ⟨1, false, 0, 0, 0, 1, 0⟩]
theorem twoL_wf : ∀ i ∈ twoL, i.wf := wfs_of (by kernel_rfl)
theorem nRun20 (A : Option Addr) (c : Nat) (w : World) (hx : SlX w w.heap.size A twoL) :
    Calls Try.prog 26 #[.agg #[.int .i64 0, .slice none 0 0, .slice none 0 0, .slice none 0 0], .slice A 2 c] w fun e w' => stOut bed0 0 0 0 (fun v => .tuple #[v, .int .i64 1, .int .i64 36]) w e w' := by
  have h := brun_any bed0 bedP0 bed0_wf ⟨by decide, by decide, by decide⟩ twoL (by decide) (fun _ _ => by decide) twoL_wf A c w (bedAt0 _ _) hx
  rw [show runS bed0 twoL = (bed0, 1, 36) by kernel_rfl] at h
  exact h
theorem nRun8 (A : Option Addr) (c : Nat) (w : World) (hx : SlX w w.heap.size A nameL) :
    Calls Try.prog 26 #[.agg #[.int .i64 0, .slice none 0 0, .slice none 0 0, .slice none 0 0], .slice A 5 c] w fun e w' => stOut nS 2 1 2 (fun v => .tuple #[v, .int .i64 5, .int .i64 0]) w e w' := by
  have h := brun_any bed0 bedP0 bed0_wf ⟨by decide, by decide, by decide⟩ nameL (by decide) (fun _ _ => by decide) nameL_wf A c w (bedAt0 _ _) hx
  rw [nm_run] at h
  exact h
theorem fRun6 (A : Option Addr) (c : Nat) (w : World) (hx : SlX w w.heap.size A (fullL 6)) :
    Calls Try.prog 26 #[.agg #[.int .i64 0, .slice none 0 0, .slice none 0 0, .slice none 0 0], .slice A 7 c] w fun e w' => stOut fS 1 1 6 (fun v => .tuple #[v, .int .i64 7, .int .i64 0]) w e w' := by
  have h := brun_any bed0 bedP0 bed0_wf ⟨by decide, by decide, by decide⟩ (fullL 6) (by decide) (fun _ _ => by decide) fullL_wf A c w (bedAt0 _ _) hx
  rw [fl_run] at h
  exact h
/-- A list that is too long: none of it is read. -/
theorem nRun21 (A : Option Addr) (c : Nat) (l : List Ins) (hl : l.length = 2001) (hw : ∀ i ∈ l, i.wf) (w : World) (hx : SlX w w.heap.size A l) :
    Calls Try.prog 26 #[.agg #[.int .i64 0, .slice none 0 0, .slice none 0 0, .slice none 0 0], .slice A 2001 c] w fun e w' => stOut bed0 0 0 0 (fun v => .tuple #[v, .int .i64 0, .int .i64 4]) w e w' := by
  have h := brun_any bed0 bedP0 bed0_wf ⟨by decide, by decide, by decide⟩ l (by omega) (fun _ h => by omega) hw A c w (bedAt0 _ _) hx
  rw [show runS bed0 l = (bed0, 0, 4) by unfold runS; rw [if_neg (by rw [good0'.err]; simp), if_pos (by omega)], hl] at h
  exact h
theorem nBad (i : Ins) (hi : i ∈ badL) (w : World) :
    Calls Try.prog 18 #[.agg #[.int .i64 0, .slice none 0 0, .slice none 0 0, .slice none 0 0], i.val] w fun e w' => stOut bed0 0 0 0 (fun v => .tuple #[v, .int .i64 8]) w e w' := by
  have h := bdo_any bed0 bedP0 bed0_wf ⟨by decide, by decide, by decide⟩ (fun _ => by decide) i (badL_wf i hi) w (bedAt0 _ _)
  rw [(bad_err hi).2] at h
  exact h
/-- Boxes of states, lists of numbers. -/
structure Ng (w : World) (bs : List (Nat × BedS × BedP)) (ls : List (Option Addr × List Int)) (W : World) : Prop where
  bx : ∀ x ∈ bs, Bx W x.1 x.2.1 x.2.2
  sl : ∀ x ∈ ls, SlI W W.heap.size x.1 x.2
  lo : Below w.heap.size w W
section
variable {w W W' : World} {bs : List (Nat × BedS × BedP)} {ls : List (Option Addr × List Int)}
theorem Ng.to (h : Ng w bs ls W) (hb : Below W.heap.size W W') : Ng w bs ls W' := ⟨fun x hx => (h.bx x hx).to hb, fun x hx => ((h.sl x hx).below hb).more hb.size, h.lo.trans (hb.mono h.lo.size)⟩
theorem Ng.addB (h : Ng w bs ls W) {b : Nat} {t : BedS} {q : BedP} (hx : Bx W b t q) : Ng w ((b, t, q) :: bs) ls W := ⟨fun x hm => by
  rcases List.mem_cons.1 hm with rfl | hm
  · exact hx
  · exact h.bx x hm, h.sl, h.lo⟩
theorem Ng.addS (h : Ng w bs ls W) {A : Option Addr} {l : List Int} (hx : SlI W W.heap.size A l) : Ng w bs ((A, l) :: ls) W := ⟨h.bx, fun x hm => by
  rcases List.mem_cons.1 hm with rfl | hm
  · exact hx
  · exact h.sl x hm, h.lo⟩
theorem Ng.box (h : Ng w bs ls W) (o : Obj) : Ng w bs ls (W.alloc o) := h.to ((Below.refl _ _).alloc (Nat.le_refl _) _)
end
theorem nS_cells {W : World} {b : Nat} {p : BedP} (h : Bx W b nS p) : W.cell? ⟨b, 0, none⟩ = some (.int .i64 1) ∧ W.cell? ⟨b, 1, none⟩ = some (.slice p.ah 2 p.ch) ∧ W.cell? ⟨b, 2, none⟩ = some (.slice p.af 1 p.cf) ∧ W.cell? ⟨b, 3, none⟩ = some (.slice p.am 2 p.cm) := h.cells
theorem ntS_cells {W : World} {b : Nat} {p : BedP} (h : Bx W b ntS p) : W.cell? ⟨b, 0, none⟩ = some (.int .i64 1) ∧ W.cell? ⟨b, 1, none⟩ = some (.slice p.ah 3 p.ch) ∧ W.cell? ⟨b, 2, none⟩ = some (.slice p.af 1 p.cf) ∧ W.cell? ⟨b, 3, none⟩ = some (.slice p.am 3 p.cm) := h.cells
theorem fS_cells {W : World} {b : Nat} {p : BedP} (h : Bx W b fS p) : W.cell? ⟨b, 0, none⟩ = some (.int .i64 0) ∧ W.cell? ⟨b, 1, none⟩ = some (.slice p.ah 1 p.ch) ∧ W.cell? ⟨b, 2, none⟩ = some (.slice p.af 1 p.cf) ∧ W.cell? ⟨b, 3, none⟩ = some (.slice p.am 6 p.cm) := h.cells
theorem fT_cells {W : World} {b : Nat} {p : BedP} (h : Bx W b fT p) : W.cell? ⟨b, 0, none⟩ = some (.int .i64 0) ∧ W.cell? ⟨b, 1, none⟩ = some (.slice p.ah 1 p.ch) ∧ W.cell? ⟨b, 2, none⟩ = some (.slice p.af 1 p.cf) ∧ W.cell? ⟨b, 3, none⟩ = some (.slice p.am 7 p.cm) := h.cells
theorem ntS_last {W : World} {b7 : Nat} {q : BedP} (h : Bx W b7 ntS q) : ∃ b off A C, q.am = some ⟨b, off, none⟩ ∧ W.cell? ⟨b, off + 2 * 4, none⟩ = some (.slice A 1 C) ∧ SlI W W.heap.size A [1] := by
  obtain ⟨b, off, r, A, C, e, _, hr, h0, _, _, _, _, hs⟩ := h.state.made.at_ (k := 2) (by decide)
  have : r.parents = [1] := by
    have : r = ntS.made[2]'(by decide) := (List.getElem?_eq_some_iff.1 hr).2.symm
    rw [this]; rfl
  rw [this] at h0 hs
  exact ⟨b, off, A, C, e, h0, hs⟩
theorem fT_last {W : World} {b7 : Nat} {q : BedP} (h : Bx W b7 fT q) : ∃ b off A C, q.am = some ⟨b, off, none⟩ ∧ W.cell? ⟨b, off + 6 * 4, none⟩ = some (.slice A 6 C) ∧ SlI W W.heap.size A [0, 1, 2, 3, 4, 5] := by
  obtain ⟨b, off, r, A, C, e, _, hr, h0, _, _, _, _, hs⟩ := h.state.made.at_ (k := 6) (by decide)
  have : r.parents = [0, 1, 2, 3, 4, 5] := by
    have : r = fT.made[6]'(by decide) := (List.getElem?_eq_some_iff.1 hr).2.symm
    rw [this]; rfl
  rw [this] at h0 hs
  exact ⟨b, off, A, C, e, h0, hs⟩
/-- begin's list is a row of its own. -/
theorem begin_own (w : World) : Calls Try.prog 28 #[] w fun e w' => ∃ v, e = .returned v ∧ w'.ownsRow w.heap.size 43 7 v 3 (beginL.map Ins.cells).flatten ∧ Below w.heap.size w w' := by
  have HK := Lib.hid (fun r n w => kn_any r n w)
  go_enter Try.func28, Try.ntmps28
  go_wp2_with fail
  refine (HK.out true 0 _).mono ?_
  rintro e w1 ⟨rfl, hb1⟩
  go_wp2_with fail
  refine (HK.out true 1 _).mono ?_
  rintro e w2 ⟨rfl, hb2⟩
  have HB := Lib.hid (hb1.trans (hb2.mono hb1.size))
  clear hb1 hb2
  go_wp2
  go_ret
  exact ⟨_, rfl, World.ownsRow_lit w2 _ 3 HB.out.size (by decide) rfl, HB.out.alloc HB.out.size _⟩
theorem info_ins : (Try.prog.info? 43).map (fun i => (i.zero, i.size, i.bytes)) = some (some (.agg #[.int .u8 0, .bool false, .int .u8 0, .int .i64 0, .int .i64 0, .int .i64 0, .int .i64 0]), 7, 40) := by kernel_rfl
theorem one7 (s : Ins) : ∀ v ∈ s.cells, v.oneCell' = true := by
  intro v hv
  simp only [Ins.cells, List.mem_cons, List.not_mem_nil, or_false] at hv
  rcases hv with rfl | rfl | rfl | rfl | rfl | rfl | rfl <;> rfl
theorem row_ins {w : World} {B n : Nat} {v : Value} {l : List Ins} (h : w.ownsRow B 43 7 v n (l.map Ins.cells).flatten) (hn : l.length = n) : ∃ A c, v = .slice A n c ∧ SlX w w.heap.size A l := by
  obtain ⟨A, c, rfl, hc⟩ := own_slice h
  exact ⟨A, c, rfl, SlS.of_own (cells7 l) (by rw [List.length_map, hn]) h⟩
end Go.Proofs.Ytjoglkamhjcmhaa
