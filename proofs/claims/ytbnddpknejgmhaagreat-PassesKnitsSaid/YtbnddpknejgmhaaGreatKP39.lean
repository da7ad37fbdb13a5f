/- bed.Instr: 0 or 8. Layer 30: bed.Do. -/
import Derived.Test.YtbnddpknejgmhaaGreatKP1
import Derived.Test.YtbnddpknejgmhaaGreatKP38
import Derived.Test.YtbnddpknejgmhaaGreatKP15
import Derived.Deep.CutBlock
import Derived.Deep.Light
namespace Go.Proofs.YtbnddpknejgmhaaGreat
open Go.RowKit
set_option maxRecDepth 100000

/-- What is left of an instruction where the named fields are struck. -/
def Ins.plain (i : Ins) : Ins :=
  if i.op = 1 ∨ i.op = 2 then ⟨0, i.right, i.bed, i.at_, i.to_, 0, i.rack⟩
  else if i.op = 3 ∨ i.op = 4 ∨ i.op = 5 then ⟨0, false, 0, 0, i.to_, 0, i.rack⟩
  else if i.op = 6 then ⟨0, false, 0, 0, 0, 0, i.rack⟩
  else if i.op = 7 then ⟨0, i.right, 0, 0, 0, i.car, i.rack⟩
  else if i.op = 8 then ⟨0, i.right, i.bed, i.at_, i.to_, i.car, 0⟩
  else if i.op = 9 then ⟨0, i.right, 0, 0, i.to_, i.car, i.rack⟩
  else ⟨0, i.right, i.bed, i.at_, i.to_, i.car, i.rack⟩
def Ins.okP (i : Ins) : Prop := (1 ≤ i.op ∧ i.op ≤ 6 ∧ 1 ≤ i.car ∧ i.car ≤ 6) ∨ i.op = 7 ∨ i.op = 9 ∨ (i.op = 8 ∧ -8 ≤ i.rack ∧ i.rack ≤ 8)
instance (i : Ins) : Decidable i.okP := by unfold Ins.okP; infer_instance
def Ins.okB (i : Ins) : Bool := decide i.okP
set_option maxHeartbeats 1000000 in
theorem Ins.good_iff (i : Ins) : i.good ↔ i.okP ∧ i.plain = ⟨0, false, 0, 0, 0, 0, 0⟩ ∧ i.bed ≤ 1 ∧ needleP i.at_ ∧ needleP i.to_ := by
  obtain ⟨op, right, bed, at_, to_, car, rack⟩ := i
  unfold Ins.good Ins.okP Ins.plain carP needleP
  dsimp only
  by_cases e1 : op = 1
  · subst e1; cases right <;> simp <;> (constructor <;> intro h <;> (repeat' apply And.intro) <;> omega)
  by_cases e2 : op = 2
  · subst e2; cases right <;> simp <;> (constructor <;> intro h <;> (repeat' apply And.intro) <;> omega)
  by_cases e3 : op = 3
  · subst e3; cases right <;> simp <;> (constructor <;> intro h <;> (repeat' apply And.intro) <;> omega)
  by_cases e4 : op = 4
  · subst e4; cases right <;> simp <;> (constructor <;> intro h <;> (repeat' apply And.intro) <;> omega)
  by_cases e5 : op = 5
  · subst e5; cases right <;> simp <;> (constructor <;> intro h <;> (repeat' apply And.intro) <;> omega)
  by_cases e6 : op = 6
  · subst e6; cases right <;> simp <;> (constructor <;> intro h <;> (repeat' apply And.intro) <;> omega)
  by_cases e7 : op = 7
  · subst e7; cases right <;> simp <;> (constructor <;> intro h <;> (repeat' apply And.intro) <;> omega)
  by_cases e8 : op = 8
  · subst e8; cases right <;> simp <;> (constructor <;> intro h <;> (repeat' apply And.intro) <;> omega)
  by_cases e9 : op = 9
  · subst e9; cases right <;> simp <;> (constructor <;> intro h <;> (repeat' apply And.intro) <;> omega)
  cases right <;> simp [e1, e2, e3, e4, e5, e6, e7, e8, e9] <;> omega
theorem okB_iff (i : Ins) : i.okB = true ↔ ((1 ≤ i.op ∧ i.op ≤ 6 ∧ 1 ≤ i.car ∧ i.car ≤ 6) ∨ i.op = 7 ∨ i.op = 9 ∨ (i.op = 8 ∧ -8 ≤ i.rack ∧ i.rack ≤ 8)) := decide_eq_true_iff
set_option maxHeartbeats 4000000 in
theorem instr_any (i : Ins) (w : World) : Calls Tryz.prog 31 #[i.val] w fun e w' => e = .returned (.int .i64 i.err) ∧ Below w.heap.size w w' := by
  have hneq := run_neq_ins
  go_enter Tryz.func31, Tryz.ntmps31
  go_upto_region 1 with (fail)
  go_cut [3] (fun s3 wx => s3 = .bool (decide (carP i.car)) ∧ wx = w.alloc (.cells #[.int .u8 i.op, .bool i.right, .int .u8 i.bed, .int .i64 i.at_, .int .i64 i.to_, .int .i64 i.car, .int .i64 i.rack] 64))
  case first =>
    go_wp2
    all_goals go_meet
    all_goals
      case rel =>
        refine ⟨?_, rfl⟩
        congr 1
        rw [Bool.eq_iff_iff, decide_eq_true_iff (p := carP i.car)]
        unfold carP
        first | omega | (simp; done) | (simp; omega)
  case rest =>
    obtain ⟨rfl, rfl⟩ := hcut
    generalize hcb : decide (carP i.car) = cb
    go_upto_block 0 with (fail)
    go_cut [5] (fun s5 wx => s5 = .bool i.okB ∧ wx = (w.alloc (.cells #[.int .u8 i.op, .bool i.right, .int .u8 i.bed, .int .i64 i.at_, .int .i64 i.to_, .int .i64 i.car, .int .i64 i.rack] 64)).alloc
        (.cells #[.int .u8 i.plain.op, .bool i.plain.right, .int .u8 i.plain.bed, .int .i64 i.plain.at_, .int .i64 i.plain.to_, .int .i64 i.plain.car, .int .i64 i.plain.rack] 64))
    case first =>
      have HC := Lib.hid hcb
      clear hcb hneq
      go_wp2
      all_goals go_meet
      all_goals
        go_light
        simp only [beq_iff_eq, beq_eq_false_iff_ne, ne_eq] at *
        refine ⟨?_, ?_⟩
        · refine congrArg Value.bool ?_
          rw [Bool.eq_iff_iff, okB_iff]
          have hc1 : cb = true ↔ (1 ≤ i.car ∧ i.car ≤ 6) := by rw [← HC.out, decide_eq_true_iff]; exact Iff.rfl
          by_cases hr : -8 ≤ i.rack ∧ i.rack ≤ 8
          · have hw : wrap64 (-i.rack) = -i.rack := IntWalk.wrap64_in _ (by omega)
            first | (rw [hc1]; omega) | (simp; omega)
          · first | (rw [hc1]; omega) | (simp; omega)
        · unfold Ins.plain
          simp [*]
    case rest =>
      obtain ⟨rfl, rfl⟩ := hcut
      have HG := Lib.hid i.good_iff
      clear hcb
      generalize hok0 : i.okB = ok at *
      generalize i.plain = pl at HG ⊢
      cases ok with
      | false =>
        have hok := Lib.hid (of_decide_eq_false hok0)
        clear hok0
        have HE : Hid (i.err = 8) := by unfold Hid Ins.err; rw [if_neg]; intro h; exact hok.out (HG.out.1 h).1
        clear HG
        go_wp2
        go_ret
        exact ⟨ret_int HE.out.symm, ((Below.refl _ _).alloc (Nat.le_refl _) _).alloc (by simp) _⟩
      | true =>
        have hok := Lib.hid (of_decide_eq_true hok0)
        clear hok0
        by_cases hz : pl = ⟨0, false, 0, 0, 0, 0, 0⟩ ∧ i.bed ≤ 1 ∧ needleP i.at_ ∧ needleP i.to_
        · have HE : Hid (i.err = 0) := by unfold Hid Ins.err; rw [if_pos (HG.out.2 ⟨hok.out, hz.1, hz.2.1, hz.2.2.1, hz.2.2.2⟩)]
          obtain ⟨rfl, h1, h2, h3⟩ := hz
          have hn : insNe' 0 false 0 0 0 0 0 0 false 0 0 0 0 0 = false := by decide
          have hd2 : decide (needleP i.at_) = true := decide_eq_true h2
          have hd3 : decide (needleP i.to_) = true := decide_eq_true h3
          clear HG
          go_wp2_with (go_at_call 39; refine (needle_any _ _).mono ?_; rintro e w' ⟨rfl, rfl⟩)
          go_ret
          exact ⟨ret_int HE.out.symm, ((Below.refl _ _).alloc (Nat.le_refl _) _).alloc (by simp) _⟩
        · have HE : Hid (i.err = 8) := by unfold Hid Ins.err; rw [if_neg]; intro h; exact hz ⟨(HG.out.1 h).2.1, (HG.out.1 h).2.2⟩
          have hcases : (insNe' pl.op pl.right pl.bed pl.at_ pl.to_ pl.car pl.rack 0 false 0 0 0 0 0 = true) ∨ (insNe' pl.op pl.right pl.bed pl.at_ pl.to_ pl.car pl.rack 0 false 0 0 0 0 0 = false ∧ (1 < i.bed ∨ (i.bed ≤ 1 ∧ (decide (needleP i.at_) = false ∨ (decide (needleP i.at_) = true ∧ decide (needleP i.to_) = false))))) := by
            cases hq : insNe' pl.op pl.right pl.bed pl.at_ pl.to_ pl.car pl.rack 0 false 0 0 0 0 0 with
            | true => exact .inl rfl
            | false =>
              refine .inr ⟨rfl, ?_⟩
              have hp : pl = ⟨0, false, 0, 0, 0, 0, 0⟩ := by
                unfold insNe' insNe at hq
                exact Decidable.of_not_not (of_decide_eq_false hq)
              by_cases h1 : i.bed ≤ 1
              · refine .inr ⟨h1, ?_⟩
                by_cases h2 : needleP i.at_
                · refine .inr ⟨decide_eq_true h2, decide_eq_false fun h3 => hz ⟨hp, h1, h2, h3⟩⟩
                · exact .inl (decide_eq_false h2)
              · exact .inl (by omega)
          clear HG hz
          rcases hcases with h1 | ⟨h1, h2 | ⟨h2, h3 | ⟨h3, h4⟩⟩⟩
          all_goals
            go_wp2_with (go_at_call 39; refine (needle_any _ _).mono ?_; rintro e w' ⟨rfl, rfl⟩)
            go_ret
            exact ⟨ret_int HE.out.symm, ((Below.refl _ _).alloc (Nat.le_refl _) _).alloc (by simp) _⟩
end Go.Proofs.YtbnddpknejgmhaaGreat
namespace Go.Proofs.YtbnddpknejgmhaaGreat
open Go.RowKit Go.Shelf Go.Sort
set_option maxRecDepth 100000

/-- do, for every valid instruction. -/
theorem dom_any (B pb : Nat) (s : BedS) (i : Ins) (X : List Own) (hg : Good s) (hmd : s.made.length ≤ 3999) (hwi : i.wf) (hi : i.good) (w : World) (hBw : B ≤ w.heap.size) (hw : WorkX 84 w B pb s X) :
    Calls Tryz.prog 30 #[.pointer (some ⟨pb, 0, none⟩), i.val] w fun e w' => doOut B pb (doI s i) X w e w' := by
  have hwb := hwi.2.2.1
  have z : needleP 0 := by unfold needleP; omega
  rcases hi with ⟨ho, h1, h2, h3, h4, h5, hc⟩ | ⟨ho, h1, h2, hc, hb, hn⟩ | ⟨ho, h1, hc, hb, hn, ht⟩ | ⟨ho, h1, h2, h3, hb, hn, ht⟩ | ⟨ho, h1, h2, h3, h4, h5, hr⟩ | ⟨ho, h1, h2, h3, h4, hb, hn⟩
  · rcases ho with ho | ho
    · exact doIn_any B pb s i X hg.fd hc ho w hBw hw
    · exact doOut_any B pb s i X hg.fd hc ho w hBw hw
  · exact doYarn_any B pb s i X hg.st hg.fd hmd (by omega) ⟨hwb, hb⟩ hn (by rw [h1]; exact z) hc w hBw hw
  · exact doYarn_any B pb s i X hg.st hg.fd hmd (by omega) ⟨hwb, hb⟩ hn ht hc w hBw hw
  · exact doMove_any B pb s i X hg.st ⟨hwb, hb⟩ hn ht ho w hBw hw
  · exact doRack_any B pb s i X ho w hBw hw
  · exact doDrop_any B pb s i X hg.st ⟨hwb, hb⟩ hn ho w hBw hw

/-- A state lies in the cells of a block. -/
def BdIn (W : World) (b : Nat) (s : BedS) (p : BedP) : Prop := W.cell? ⟨b, 0, none⟩ = some (.int .i64 s.rack) ∧ W.cell? ⟨b, 1, none⟩ = some (.slice p.ah s.hooks.length p.ch) ∧ W.cell? ⟨b, 2, none⟩ = some (.slice p.af s.feeds.length p.cf) ∧ W.cell? ⟨b, 3, none⟩ = some (.slice p.am s.made.length p.cm)
def bedP0 : BedP := ⟨none, 0, none, 0, none, 0⟩
theorem bedAt0 (W : World) (B : Nat) : BedAt W B bedP0 bed0 := ⟨fun h => absurd rfl h, fun h => absurd rfl h, fun h => absurd rfl h⟩
theorem BdIn.below {W W' : World} {B b : Nat} {s : BedS} {p : BedP} (h : BdIn W b s p) (hb : Below B W W') (hB : b < B) : BdIn W' b s p :=
  ⟨(bcell hb hB _).trans h.1, (bcell hb hB _).trans h.2.1, (bcell hb hB _).trans h.2.2.1, (bcell hb hB _).trans h.2.2.2⟩
abbrev bedBox (s : BedS) (p : BedP) : Obj := .cells #[.int .i64 s.rack, .slice p.ah s.hooks.length p.ch, .slice p.af s.feeds.length p.cf, .slice p.am s.made.length p.cm] 39
abbrev bedZero : Obj := .cells #[.int .i64 0, .slice none 0 0, .slice none 0 0, .slice none 0 0] 39
theorem BdIn.new (w : World) (s : BedS) (p : BedP) : BdIn (w.alloc (bedBox s p)) w.heap.size s p := ⟨cell_new rfl rfl rfl, cell_new rfl rfl rfl, cell_new rfl rfl rfl, cell_new rfl rfl rfl⟩
theorem BdIn.zero (w : World) : BdIn (w.alloc bedZero) w.heap.size bed0 bedP0 := ⟨cell_new rfl rfl rfl, cell_new rfl rfl rfl, cell_new rfl rfl rfl, cell_new rfl rfl rfl⟩
abbrev BdIn.set (W : World) (b : Nat) (s : BedS) (p : BedP) : World := (((W.setCell ⟨b, 0, none⟩ (.int .i64 s.rack)).setCell ⟨b, 1, none⟩ (.slice p.ah s.hooks.length p.ch)).setCell ⟨b, 2, none⟩ (.slice p.af s.feeds.length p.cf)).setCell ⟨b, 3, none⟩ (.slice p.am s.made.length p.cm)
theorem BdIn.stored {W : World} {b : Nat} {s : BedS} {p : BedP} (h : BdIn W b s p) (t : BedS) (q : BedP) : BdIn (BdIn.set W b t q) b t q := by
  obtain ⟨c0, c1, c2, c3⟩ := h
  exact ⟨set_other (by decide) (set_other (by decide) (set_other (by decide) (set_same c0))), set_other (by decide) (set_other (by decide) (set_same (set_other (by decide) c1))), set_other (by decide) (set_same (set_other (by decide) (set_other (by decide) c2))), set_same (set_other (by decide) (set_other (by decide) (set_other (by decide) c3)))⟩
theorem BdIn.kept {B : Nat} {a W : World} (h : Below B a W) {b : Nat} (hb : B ≤ b) (s : BedS) (p : BedP) : Below B a (BdIn.set W b s p) :=
  (((h.setCell (p := ⟨b, 0, none⟩) hb _).setCell (p := ⟨b, 1, none⟩) hb _).setCell (p := ⟨b, 2, none⟩) hb _).setCell (p := ⟨b, 3, none⟩) hb _
theorem BdIn.size (W : World) (b : Nat) (s : BedS) (p : BedP) : (BdIn.set W b s p).heap.size = W.heap.size := by simp
/-- A row where its block is as it was. -/
theorem Own.move {w W : World} {B : Nat} {o : Own} (h : o.lies w B) (hj : ∀ j, B ≤ j → j < w.heap.size → W.heap[j]? = w.heap[j]?) : o.lies W B := by
  refine ⟨h.1, ?_⟩
  rcases h.2 with hn | ⟨g, cap, cur, e, hb, hg, rest⟩
  · exact Or.inl hn
  · exact Or.inr ⟨g, cap, cur, e, hb, (hj g hb (Array.getElem?_eq_some_iff.1 hg).1).trans hg, rest⟩
theorem WorkAt.move {T : TypeId} {w W : World} {B pb : Nat} {s : BedS} {hv : List (Hk × Value)} {mv : List (Mk × Value)} {vh vf vm : Value} {X : List Own} (h : WorkAt T w B pb s hv mv vh vf vm X) (hj : ∀ j, B ≤ j → j < w.heap.size → W.heap[j]? = w.heap[j]?) : WorkAt T W B pb s hv mv vh vf vm X :=
  ⟨h.hooks, h.made, ⟨fun o ho => Own.move (h.owns.all o ho) hj, h.owns.apart⟩⟩
/-- The state's lists lie in the blocks from lo on: it reads in every world in which these are as they are. -/
def BedFr (lo : Nat) (w : World) (p : BedP) (s : BedS) : Prop := ∀ W : World, w.heap.size ≤ W.heap.size → (∀ j, lo ≤ j → j < w.heap.size → W.heap[j]? = w.heap[j]?) → BedAt W W.heap.size p s
theorem BedFr.at_ {lo : Nat} {w : World} {p : BedP} {s : BedS} (h : BedFr lo w p s) : BedAt w w.heap.size p s := h w (Nat.le_refl _) (fun _ _ _ => rfl)
theorem BedFr.zero (lo : Nat) (w : World) : BedFr lo w bedP0 bed0 := fun _ _ _ => bedAt0 _ _
theorem BedFr.to {lo : Nat} {w w' : World} {p : BedP} {s : BedS} (h : BedFr lo w p s) (hb : Below w.heap.size w w') : BedFr lo w' p s := fun W hs hj =>
  h W (Nat.le_trans hb.size hs) fun j h1 h2 => (hj j h1 (Nat.lt_of_lt_of_le h2 hb.size)).trans (hb.block j h2)
theorem BedFr.set {lo : Nat} {w : World} {p : BedP} {s : BedS} (h : BedFr lo w p s) {b : Nat} (hb : b < lo) (k : Nat) (v : Value) : BedFr lo (w.setCell ⟨b, k, none⟩ v) p s := fun W hs hj =>
  h W (by simpa using hs) fun j h1 h2 => (hj j h1 (by simpa using h2)).trans (Below.heap_setCell w ⟨b, k, none⟩ v j (by show j ≠ b; omega))
theorem BedFr.sets {lo : Nat} {w : World} {p q : BedP} {s t : BedS} (h : BedFr lo w p s) {b : Nat} (hb : b < lo) : BedFr lo (BdIn.set w b t q) p s := (((h.set hb _ _).set hb _ _).set hb _ _).set hb _ _
theorem BedFr.more {lo lo' : Nat} {w : World} {p : BedP} {s : BedS} (h : BedFr lo w p s) (hl : lo' ≤ lo) : BedFr lo' w p s := fun W hs hj => h W hs fun j h1 h2 => hj j (Nat.le_trans hl h1) h2
theorem WorkAt.fresh {T : TypeId} {w : World} {B pb : Nat} {s : BedS} {q : BedP} {hv : List (Hk × Value)} {mv : List (Mk × Value)} {X : List Own}
    (h : WorkAt T w B pb s hv mv (.slice q.ah s.hooks.length q.ch) (.slice q.af s.feeds.length q.cf) (.slice q.am s.made.length q.cm) X) : BedFr B w q s := fun W _ hj => by
  obtain ⟨q', g1, g2, g3, hbq⟩ := (h.move hj).bed
  have hq : q = q' := by
    cases q; cases q'
    simp only [Value.slice.injEq, true_and] at g1 g2 g3
    simp_all
  rw [hq]
  exact hbq
/-- What Do hands back. -/
def bedOut (r : BedS × Int) (w : World) (e : Ending) (w' : World) : Prop := ∃ p, e = .returned (.tuple #[r.1.val p, .int .i64 r.2]) ∧ BedFr w.heap.size w' p r.1 ∧ Below w.heap.size w w'
abbrev doBW (w : World) (s : BedS) (p : BedP) (i : Ins) : World := ((w.alloc (bedBox s p)).alloc (insBox i)).alloc bedZero
def InsIn (W : World) (b : Nat) (i : Ins) : Prop := W.cell? ⟨b, 0, none⟩ = some (.int .u8 i.op) ∧ W.cell? ⟨b, 1, none⟩ = some (.bool i.right) ∧ W.cell? ⟨b, 2, none⟩ = some (.int .u8 i.bed) ∧ W.cell? ⟨b, 3, none⟩ = some (.int .i64 i.at_) ∧ W.cell? ⟨b, 4, none⟩ = some (.int .i64 i.to_) ∧ W.cell? ⟨b, 5, none⟩ = some (.int .i64 i.car) ∧ W.cell? ⟨b, 6, none⟩ = some (.int .i64 i.rack)
theorem InsIn.below {W W' : World} {B b : Nat} {i : Ins} (h : InsIn W b i) (hb : Below B W W') (hB : b < B) : InsIn W' b i :=
  ⟨(bcell hb hB _).trans h.1, (bcell hb hB _).trans h.2.1, (bcell hb hB _).trans h.2.2.1, (bcell hb hB _).trans h.2.2.2.1, (bcell hb hB _).trans h.2.2.2.2.1, (bcell hb hB _).trans h.2.2.2.2.2.1, (bcell hb hB _).trans h.2.2.2.2.2.2⟩
theorem InsIn.new (w : World) (i : Ins) : InsIn (w.alloc (insBox i)) w.heap.size i := ⟨cell_new rfl rfl rfl, cell_new rfl rfl rfl, cell_new rfl rfl rfl, cell_new rfl rfl rfl, cell_new rfl rfl rfl, cell_new rfl rfl rfl, cell_new rfl rfl rfl⟩
theorem do_facts (w : World) (s : BedS) (p : BedP) (i : Ins) (W : World) (hb : Below (w.heap.size + 3) (doBW w s p i) W) :
    BdIn W w.heap.size s p ∧ InsIn W (w.heap.size + 1) i ∧ BdIn W (w.heap.size + 2) bed0 bedP0 ∧ ∀ k, W.frozen? ⟨w.heap.size + 2, k, none⟩ = false := by
  have h1 : Below (w.heap.size + 1) (w.alloc (bedBox s p)) (doBW w s p i) := ((Below.refl _ _).alloc (by simp) _).alloc (by simp) _
  have h2 : Below (w.heap.size + 2) ((w.alloc (bedBox s p)).alloc (insBox i)) (doBW w s p i) := (Below.refl _ _).alloc (by simp) _
  have e1 : (w.alloc (bedBox s p)).heap.size = w.heap.size + 1 := by simp
  have e2 : ((w.alloc (bedBox s p)).alloc (insBox i)).heap.size = w.heap.size + 2 := by simp
  refine ⟨(BdIn.new w s p).below (h1.trans (hb.mono (by omega))) (by omega), ?_, ?_, fun k => (Below.frozen hb (p := ⟨w.heap.size + 2, k, none⟩) (by show w.heap.size + 2 < _; omega)).trans ?_⟩
  · have := InsIn.new (w.alloc (bedBox s p)) i
    rw [e1] at this
    exact this.below (h2.trans (hb.mono (by omega))) (by omega)
  · have := BdIn.zero ((w.alloc (bedBox s p)).alloc (insBox i))
    rw [e2] at this
    exact this.below hb (by omega)
  · exact thawed_new' _ _ _ k (by simp)
theorem do_below (w : World) (s : BedS) (p : BedP) (i : Ins) : Below w.heap.size w (doBW w s p i) := (((Below.refl _ w).alloc (Nat.le_refl _) _).alloc (by simp) _).alloc (by simp; omega) _
theorem bedOut.zero {r : BedS × Int} {w W : World} {b : Nat} (h : r.1 = bed0) (hb : Below w.heap.size w W) (hB : w.heap.size ≤ b) : bedOut r w (.returned (.tuple #[bed0.val bedP0, .int .i64 r.2])) (BdIn.set W b bed0 bedP0) :=
  ⟨bedP0, by rw [h], by rw [h]; exact BedFr.zero _ _, BdIn.kept hb hB _ _⟩
end Go.Proofs.YtbnddpknejgmhaaGreat
