/- Layer 30. -/
import Derived.Test.YtflpikickbellaaGreatZ43
import Derived.Test.YtflpikickbellaaGreatZ26
namespace Go.Proofs.YtflpikickbellaaGreat
open Go.RowKit Go.Shelf Go.Sort
set_option maxRecDepth 100000
theorem dom_any (B pb : Nat) (s : BedS) (i : Ins) (X : List Own) (hg : Good s) (hmd : s.made.length ≤ 3999) (hwi : i.wf) (hi : i.good) (w : World) (hBw : B ≤ w.heap.size) (hw : WorkX 90 w B pb s X) :
 Calls Tryz.prog 35 #[.pointer (some ⟨pb, 0, none⟩), i.val] w fun e w' => doOut B pb (doI s i) X w e w' := by
 have hwb := hwi.2.2.1
 have z : needleP 0 := by unfold needleP; omega
 rcases hi with ⟨ho, h1, h2, h3, h4, h5, hc⟩ | ⟨ho, h1, h2, hc, hb, hn⟩ | ⟨ho, h1, hc, hb, hn, ht⟩ | ⟨ho, h1, h2, h3, hb, hn, ht⟩ | ⟨ho, h1, h2, h3, h4, h5, hr⟩ | ⟨ho, h1, h2, h3, h4, hb, hn⟩
 · rcases ho with ho | ho
   · exact doIn_any B pb s i X hg.fd hc ho w hBw hw
   · exact doOut_any B pb s i X hg.fd hc ho w hBw hw
 · exact doYarn_any B pb s i X hg.st hg.fd hmd (by omega) ⟨hwb, hb⟩ hn (by rw [h1]; exact z) hc w hBw hw
 · exact doYarn_any B pb s i X hg.st hg.fd hmd (by omega) ⟨hwb, hb⟩ hn ht hc w hBw hw
 · exact doMove_any B pb s i X hg.st ⟨hwb, hb⟩ hn ht ho w hBw hw
 · exact doRack_any B pb s i X ho w hBw hw
 · exact doDrop_any B pb s i X hg.st ⟨hwb, hb⟩ hn ho w hBw hw
def BdIn (W : World) (b : Nat) (s : BedS) (p : BedP) : Prop := W.cell? ⟨b, 0, none⟩ = some (.int .i64 s.rack) ∧ W.cell? ⟨b, 1, none⟩ = some (.slice p.ah s.hooks.length p.ch) ∧ W.cell? ⟨b, 2, none⟩ = some (.slice p.af s.feeds.length p.cf) ∧ W.cell? ⟨b, 3, none⟩ = some (.slice p.am s.made.length p.cm)
def bedP0 : BedP := ⟨none, 0, none, 0, none, 0⟩
theorem bedAt0 (W : World) (B : Nat) : BedAt W B bedP0 bed0 := ⟨fun h => absurd rfl h, fun h => absurd rfl h, fun h => absurd rfl h⟩
theorem BdIn.below {W W' : World} {B b : Nat} {s : BedS} {p : BedP} (h : BdIn W b s p) (hb : Below B W W') (hB : b < B) : BdIn W' b s p :=
 ⟨(bcell hb hB _).trans h.1, (bcell hb hB _).trans h.2.1, (bcell hb hB _).trans h.2.2.1, (bcell hb hB _).trans h.2.2.2⟩
abbrev bedBox (s : BedS) (p : BedP) : Obj := .cells #[.int .i64 s.rack, .slice p.ah s.hooks.length p.ch, .slice p.af s.feeds.length p.cf, .slice p.am s.made.length p.cm] 39
abbrev bedZero : Obj := .cells #[.int .i64 0, .slice none 0 0, .slice none 0 0, .slice none 0 0] 39
theorem BdIn.new (w : World) (s : BedS) (p : BedP) : BdIn (w.alloc (bedBox s p)) w.heap.size s p := ⟨cell_new rfl rfl rfl, cell_new rfl rfl rfl, cell_new rfl rfl rfl, cell_new rfl rfl rfl⟩
theorem BdIn.zero (w : World) : BdIn (w.alloc bedZero) w.heap.size bed0 bedP0 := ⟨cell_new rfl rfl rfl, cell_new rfl rfl rfl, cell_new rfl rfl rfl, cell_new rfl rfl rfl⟩
abbrev BdIn.set (W : World) (b : Nat) (s : BedS) (p : BedP) : World := (((W.setCell ⟨b, 0, none⟩ (.int .i64 s.rack)).setCell ⟨b, 1, none⟩ (.slice p.ah s.hooks.length p.ch)).setCell ⟨b, 2, none⟩ (.slice p.af s.feeds.length p.cf)).setCell ⟨b, 3, none⟩ (.slice p.am s.made.length p.cm)
theorem BdIn.stored {W : World} {b : Nat} {s : BedS} {p : BedP} (h : BdIn W b s p) (t : BedS) (q : BedP) : BdIn (BdIn.set W b t q) b t q := by
 obtain ⟨c0, c1, c2, c3⟩ := h
 exact ⟨set_other (by decide) (set_other (by decide) (set_other (by decide) (set_same c0))), set_other (by decide) (set_other (by decide) (set_same (set_other (by decide) c1))), set_other (by decide) (set_same (set_other (by decide) (set_other (by decide) c2))), set_same (set_other (by decide) (set_other (by decide) (set_other (by decide) c3)))⟩
theorem BdIn.kept {B : Nat} {a W : World} (h : Below B a W) {b : Nat} (hb : B ≤ b) (s : BedS) (p : BedP) : Below B a (BdIn.set W b s p) :=
 (((h.setCell (p := ⟨b, 0, none⟩) hb _).setCell (p := ⟨b, 1, none⟩) hb _).setCell (p := ⟨b, 2, none⟩) hb _).setCell (p := ⟨b, 3, none⟩) hb _
theorem Own.move {w W : World} {B : Nat} {o : Own} (h : o.lies w B) (hj : ∀ j, B ≤ j → j < w.heap.size → W.heap[j]? = w.heap[j]?) : o.lies W B := by
 refine ⟨h.1, ?_⟩
 rcases h.2 with hn | ⟨g, cap, cur, e, hb, hg, rest⟩
 · exact Or.inl hn
 · exact Or.inr ⟨g, cap, cur, e, hb, (hj g hb (Array.getElem?_eq_some_iff.1 hg).1).trans hg, rest⟩
theorem WorkAt.move {T : TypeId} {w W : World} {B pb : Nat} {s : BedS} {hv : List (Hk × Value)} {mv : List (Mk × Value)} {vh vf vm : Value} {X : List Own} (h : WorkAt T w B pb s hv mv vh vf vm X) (hj : ∀ j, B ≤ j → j < w.heap.size → W.heap[j]? = w.heap[j]?) : WorkAt T W B pb s hv mv vh vf vm X :=
 ⟨h.hooks, h.made, ⟨fun o ho => Own.move (h.owns.all o ho) hj, h.owns.apart⟩⟩
def BedFr (lo : Nat) (w : World) (p : BedP) (s : BedS) : Prop := ∀ W : World, w.heap.size ≤ W.heap.size → (∀ j, lo ≤ j → j < w.heap.size → W.heap[j]? = w.heap[j]?) → BedAt W W.heap.size p s
theorem BedFr.at_ {lo : Nat} {w : World} {p : BedP} {s : BedS} (h : BedFr lo w p s) : BedAt w w.heap.size p s := h w (Nat.le_refl _) (fun _ _ _ => rfl)
theorem BedFr.zero (lo : Nat) (w : World) : BedFr lo w bedP0 bed0 := fun _ _ _ => bedAt0 _ _
theorem BedFr.to {lo : Nat} {w w' : World} {p : BedP} {s : BedS} (h : BedFr lo w p s) (hb : Below w.heap.size w w') : BedFr lo w' p s := fun W hs hj =>
 h W (Nat.le_trans hb.size hs) fun j h1 h2 => (hj j h1 (Nat.lt_of_lt_of_le h2 hb.size)).trans (hb.block j h2)
theorem BedFr.set {lo : Nat} {w : World} {p : BedP} {s : BedS} (h : BedFr lo w p s) {b : Nat} (hb : b < lo) (k : Nat) (v : Value) : BedFr lo (w.setCell ⟨b, k, none⟩ v) p s := fun W hs hj =>
 h W (by simpa using hs) fun j h1 h2 => (hj j h1 (by simpa using h2)).trans (Below.heap_setCell w ⟨b, k, none⟩ v j (by show j ≠ b; omega))
theorem BedFr.sets {lo : Nat} {w : World} {p q : BedP} {s t : BedS} (h : BedFr lo w p s) {b : Nat} (hb : b < lo) : BedFr lo (BdIn.set w b t q) p s := (((h.set hb _ _).set hb _ _).set hb _ _).set hb _ _
theorem BedFr.more {lo lo' : Nat} {w : World} {p : BedP} {s : BedS} (h : BedFr lo w p s) (hl : lo' ≤ lo) : BedFr lo' w p s := fun W hs hj => h W hs fun j h1 h2 => hj j (Nat.le_trans hl h1) h2
theorem WorkAt.fresh {T : TypeId} {w : World} {B pb : Nat} {s : BedS} {q : BedP} {hv : List (Hk × Value)} {mv : List (Mk × Value)} {X : List Own}
 (h : WorkAt T w B pb s hv mv (.slice q.ah s.hooks.length q.ch) (.slice q.af s.feeds.length q.cf) (.slice q.am s.made.length q.cm) X) : BedFr B w q s := fun W _ hj => by
 obtain ⟨q', g1, g2, g3, hbq⟩ := (h.move hj).bed
 have hq : q = q' := by
  cases q; cases q'
  simp only [Value.slice.injEq, true_and] at g1 g2 g3
  simp_all
 rw [hq]
 exact hbq
def InsIn (W : World) (b : Nat) (i : Ins) : Prop := W.cell? ⟨b, 0, none⟩ = some (.int .u8 i.op) ∧ W.cell? ⟨b, 1, none⟩ = some (.bool i.right) ∧ W.cell? ⟨b, 2, none⟩ = some (.int .u8 i.bed) ∧ W.cell? ⟨b, 3, none⟩ = some (.int .i64 i.at_) ∧ W.cell? ⟨b, 4, none⟩ = some (.int .i64 i.to_) ∧ W.cell? ⟨b, 5, none⟩ = some (.int .i64 i.car) ∧ W.cell? ⟨b, 6, none⟩ = some (.int .i64 i.rack)
theorem InsIn.below {W W' : World} {B b : Nat} {i : Ins} (h : InsIn W b i) (hb : Below B W W') (hB : b < B) : InsIn W' b i :=
 ⟨(bcell hb hB _).trans h.1, (bcell hb hB _).trans h.2.1, (bcell hb hB _).trans h.2.2.1, (bcell hb hB _).trans h.2.2.2.1, (bcell hb hB _).trans h.2.2.2.2.1, (bcell hb hB _).trans h.2.2.2.2.2.1, (bcell hb hB _).trans h.2.2.2.2.2.2⟩
theorem InsIn.new (w : World) (i : Ins) : InsIn (w.alloc (insBox i)) w.heap.size i := ⟨cell_new rfl rfl rfl, cell_new rfl rfl rfl, cell_new rfl rfl rfl, cell_new rfl rfl rfl, cell_new rfl rfl rfl, cell_new rfl rfl rfl, cell_new rfl rfl rfl⟩
def runOut (r : BedS × Int × Int) (w : World) (e : Ending) (w' : World) : Prop := ∃ p, e = .returned (.tuple #[r.1.val p, .int .i64 r.2.1, .int .i64 r.2.2]) ∧ BedFr w.heap.size w' p r.1 ∧ Below w.heap.size w w'
theorem run_close {W : World} {tmps : Array Value} {s : BedS} {p : BedP} {x y : Int} {b : Nat} {R : Ending → World → Prop} (hF : BdIn W b s p) (h4 : tmps[4]?.getD undef = .pointer (some ⟨b, 0, none⟩)) (h5 : tmps[5]?.getD undef = .int .i64 x) (h6 : tmps[6]?.getD undef = .int .i64 y) (hR : R (.returned (.tuple #[s.val p, .int .i64 x, .int .i64 y])) W) :
 bodyPost Tryz.prog Tryz.f11 R .ret { tmps := tmps, defers := [] } W := by
 obtain ⟨c0, c1, c2, c3⟩ := hF
 refine bodyPost_ret (v := .tuple #[s.val p, .int .i64 x, .int .i64 y]) ?_ rfl hR
 simp [results, Tryz.results11, go_sem, h4, h5, h6, c0, c1, c2, c3, BedS.val]
theorem runOut.zero {r : BedS × Int × Int} {w W : World} {b : Nat} {x y : Int} (h : r = (bed0, x, y)) (hb : Below w.heap.size w W) (hB : w.heap.size ≤ b) : runOut r w (.returned (.tuple #[bed0.val bedP0, .int .i64 x, .int .i64 y])) (BdIn.set W b bed0 bedP0) := by
 subst h
 exact ⟨bedP0, rfl, BedFr.zero _ _, BdIn.kept hb hB _ _⟩
theorem runOut.of {r r' : BedS × Int × Int} {w W : World} {e : Ending} (h : r = r') (hr : runOut r' w e W) : runOut r w e W := by rw [h]; exact hr
theorem runI_step {s : BedS} {k : Nat} {l : List Ins} {i : Ins} (h : l[k]? = some i) : runI s k (l.drop k) = if i.err ≠ 0 then (bed0, (k : Int), i.err) else if (doI s i).2 ≠ 0 then (bed0, (k : Int), (doI s i).2) else runI (doI s i).1 (k + 1) (l.drop (k + 1)) := by
 obtain ⟨hk, e⟩ := List.getElem?_eq_some_iff.1 h
 rw [List.drop_eq_getElem_cons hk, e]
 rfl
structure RunOk (s : BedS) (n k : Nat) (st : BedS) : Prop where
 good : Good st
 len : st.made.length ≤ s.made.length + k
 cap : s.made.length + n ≤ 3999
theorem RunOk.next {s st : BedS} {n k : Nat} (h : RunOk s n k st) {i : Ins} (hw : i.wf) (hi : i.err = 0) (hz : (doI st i).2 = 0) : RunOk s n (k + 1) (doI st i).1 := by
 obtain ⟨g, l, e, el⟩ := doI_good h.good hw (Ins.good_err hi) hz
 have h1 := h.len
 refine ⟨g, ?_, h.cap⟩
 rw [e, List.length_append, el]
 unfold madeN
 split <;> omega
abbrev runBW (w : World) (s : BedS) (p : BedP) : World := (w.alloc (bedBox s p)).alloc bedZero
theorem run_facts (w : World) (s : BedS) (p : BedP) (W : World) (hb : Below (w.heap.size + 2) (runBW w s p) W) :
 BdIn W w.heap.size s p ∧ BdIn W (w.heap.size + 1) bed0 bedP0 ∧ ∀ k, W.frozen? ⟨w.heap.size + 1, k, none⟩ = false := by
 have h1 : Below (w.heap.size + 1) (w.alloc (bedBox s p)) (runBW w s p) := (Below.refl _ _).alloc (by simp) _
 have e1 : (w.alloc (bedBox s p)).heap.size = w.heap.size + 1 := by simp
 refine ⟨(BdIn.new w s p).below (h1.trans (hb.mono (by omega))) (by omega), ?_, fun k => (Below.frozen hb (p := ⟨w.heap.size + 1, k, none⟩) (by show w.heap.size + 1 < _; omega)).trans ?_⟩
 · have := BdIn.zero (w.alloc (bedBox s p))
   rw [e1] at this
   exact this.below hb (by omega)
 · exact thawed_new' _ _ _ k (by simp)
theorem run_below (w : World) (s : BedS) (p : BedP) : Below w.heap.size w (runBW w s p) := ((Below.refl _ w).alloc (Nat.le_refl _) _).alloc (by simp) _
theorem run_state {w W : World} {b B pb : Nat} {st : BedS} {q : BedP} {x y : Int} {hv : List (Hk × Value)} {mv : List (Mk × Value)} {X : List Own}
 (h : WorkAt 90 W B pb st hv mv (.slice q.ah st.hooks.length q.ch) (.slice q.af st.feeds.length q.cf) (.slice q.am st.made.length q.cm) X) (hb : b < B) (hB : w.heap.size ≤ b) (hbl : Below w.heap.size w W) :
 runOut (st, x, y) w (.returned (.tuple #[st.val q, .int .i64 x, .int .i64 y])) (BdIn.set W b st q) :=
 ⟨q, rfl, (h.fresh.sets hb).more (by omega), BdIn.kept hbl hB _ _⟩
set_option maxHeartbeats 16000000 in
theorem brun_any (s : BedS) (p : BedP) (hwf : s.wf) (hn : s.hooks.length ≤ 9000 ∧ s.feeds.length ≤ 9000 ∧ s.made.length ≤ 9000) (l : List Ins) (hl : l.length ≤ 9000) (hcap : bedE s = 0 → l.length ≤ 2000 → s.made.length + l.length ≤ 3999) (hwl : ∀ i ∈ l, i.wf) (A : Option Addr) (c : Nat) (w : World) (hs : BedAt w w.heap.size p s) (hx : SlX w w.heap.size A l) :
 Calls Tryz.prog 11 #[s.val p, .slice A l.length c] w fun e w' => runOut (runS s l) w e w' := by
 have HC := Lib.hid (fun (w1 : World) (hb : Below w.heap.size w w1) => bcheck_any s p hwf ⟨by omega, by omega, by omega⟩ w1 ((hs.below hb).more hb.size))
 have HFa := Lib.hid (run_facts w s p)
 have HBl := Lib.hid (run_below w s p)
 unfold RetB8 at HC
 by_cases he : bedE s = 0
 case neg =>
  have HF : Hid (runS s l = (bed0, 0, bedE s)) := by unfold Hid runS; rw [if_pos he]
  have e1 : (bedE s == 0) = false := by simp [he]
  have e2 : (bedE s != 0) = true := by simp [he]
  unfold BedS.val at HC ⊢
  generalize bedE s = x at HC HF e1 e2
  generalize runS s l = r at HF ⊢
  clear hs he hcap hx hwl
  go_enter Tryz.func11, Tryz.ntmps11
  go_wp2_with fail
  refine (HC.out _ HBl.out).mono ?_
  rintro e w1 ⟨rfl, hb1⟩
  obtain ⟨-, hz, hfr⟩ := HFa.out w1 (hb1.mono (by simp))
  have HZ := Lib.hid (hz.stored bed0 bedP0)
  have HR := Lib.hid (runOut.zero (r := r) (b := w.heap.size + 1) HF.out (HBl.out.trans (hb1.mono (by simp; omega))) (by omega))
  obtain ⟨z0, z1, z2, z3⟩ := hz
  clear hb1
  go_wp2
  exact run_close HZ.out rfl rfl rfl HR.out
 case pos =>
  rw [he] at HC
  by_cases hll : l.length ≤ 2000
  case neg =>
   have HF : Hid (runS s l = (bed0, 0, 4)) := by unfold Hid runS; rw [if_neg (by simpa using he), if_pos (by omega)]
   unfold BedS.val at HC ⊢
   generalize runS s l = r at HF ⊢
   have e3 : decide (2000 < l.length) = true := by simpa using hll
   clear hs he hcap hx hwl
   go_enter Tryz.func11, Tryz.ntmps11
   go_wp2_with fail
   refine (HC.out _ HBl.out).mono ?_
   rintro e w1 ⟨rfl, hb1⟩
   obtain ⟨-, hz, hfr⟩ := HFa.out w1 (hb1.mono (by simp))
   have HZ := Lib.hid (hz.stored bed0 bedP0)
   have HR := Lib.hid (runOut.zero (r := r) (b := w.heap.size + 1) HF.out (HBl.out.trans (hb1.mono (by simp; omega))) (by omega))
   obtain ⟨z0, z1, z2, z3⟩ := hz
   clear hb1
   go_wp2
   exact run_close HZ.out rfl rfl rfl HR.out
  case pos =>
   have HF : Hid (runS s l = runI s 0 l) := by unfold Hid runS; rw [if_neg (by simpa using he), if_neg (by omega)]
   have HCo := Lib.hid (fun (w1 : World) (hb : Below w.heap.size w w1) => copied_any s p hn ⟨fun h hh => (bed_loops he h hh).2, bed_parents he⟩ w1 ((hs.below hb).more hb.size))
   have HOk : Hid (RunOk s l.length 0 s) := ⟨Good.of he hwf, by omega, hcap he hll⟩
   have HX := Lib.hid hx
   have HWl := Lib.hid hwl
   rw [HF.out]
   unfold BedS.val at HC HCo ⊢
   have hmf : ∀ (fn : Fn) (first cap : Array Value) (w : World), (Instr.makeFunc fn first cap).run Tryz.prog w = .ok (.func fn first cap) w := fun _ _ _ _ => rfl
   clear hs he hcap hx hwl HF hn hwf
   go_enter Tryz.func11, Tryz.ntmps11
   go_wp2_with fail
   refine (HC.out _ HBl.out).mono ?_
   rintro e w1 ⟨rfl, hb1⟩
   have HB1 := Lib.hid (hb1.mono (by simp) : Below (w.heap.size + 2) _ w1)
   obtain ⟨⟨c0, c1, c2, c3⟩, -, -⟩ := HFa.out w1 HB1.out
   clear hb1
   go_wp2_with fail
   refine (HCo.out _ (HBl.out.trans (HB1.out.mono (by omega)))).mono ?_
   rintro e w2 ⟨pb, rfl, hw2, hb2⟩
   obtain ⟨B, hBe⟩ : ∃ B, B = w1.heap.size := ⟨_, rfl⟩
   have HBs : Hid (w.heap.size + 2 ≤ B) := by rw [hBe]; have := HB1.out.size; simp at this; exact this
   have HB2' : Hid (B ≤ w2.heap.size) := by show B ≤ w2.heap.size; rw [hBe]; exact hb2.size
   rw [← hBe] at hw2 hb2
   have HW2 := Lib.hid hw2
   have HB2 := Lib.hid (HB1.out.trans (hb2.mono HBs.out))
   clear hb2 hw2 c0 c1 c2 c3 hBe HC HCo
   go_wp2
   go_loopw [29] (fun s29 wr => ∃ (k : Nat) (st : BedS), k ≤ l.length ∧ s29 = .int .i64 k ∧ Hid (runI s 0 l = runI st k (l.drop k)) ∧ Hid (RunOk s l.length k st) ∧ Hid (B ≤ wr.heap.size) ∧ Hid (WorkX 90 wr B pb st []) ∧ Hid (Below (w.heap.size + 2) (runBW w s p) wr)) (fun s29 _ => l.length - (intOf s29).toNat)
   case atStart => exact ⟨0, s, Nat.zero_le _, rfl, rfl, HOk.out, HB2'.out, HW2.out, HB2.out⟩
   case round =>
    obtain ⟨k, st, hk, rfl, HE, HG, HS, HW, HB⟩ := hrel
    clear HW2 HB2 HB2' HOk HB1
    by_cases hlt : k < l.length
    case neg =>
     have e0 : l.drop k = [] := List.drop_eq_nil_of_le (by omega)
     have HE2 : Hid (runI s 0 l = (st, (l.length : Int), 0)) := by
      unfold Hid
      rw [HE.out, e0, show k = l.length by omega]
      rfl
     obtain ⟨hv, mv, vh, vf, vm, hwa⟩ := HW.out
     obtain ⟨q, rfl, rfl, rfl, -⟩ := hwa.bed
     have HAt := Lib.hid hwa
     have hpb := hwa.base.2
     obtain ⟨y0, y1, y2, y3, -⟩ := hwa.cells
     obtain ⟨-, hz, hfr⟩ := HFa.out wr HB.out
     have HZ := Lib.hid (hz.stored st q)
     obtain ⟨z0, z1, z2, z3⟩ := hz
     clear hwa e0
     go_wp2
     exact run_close HZ.out rfl rfl rfl (runOut.of HE2.out (run_state HAt.out (by have := HBs.out; omega) (by omega) (HBl.out.trans (HB.out.mono (by omega)))))
    case pos =>
     obtain ⟨b, off, i, hA, hB0, hz, hc⟩ := HX.out.at_ hlt
     have hbw : Below w.heap.size w wr := HBl.out.trans (HB.out.mono (by omega))
     obtain ⟨i0, i1, i2, i3, i4, i5, i6⟩ := hc.below hbw hB0
     have HStep := Lib.hid (HE.out.trans (runI_step hz))
     have hwi : i.wf := HWl.out i (List.mem_of_getElem? hz)
     have HWi := Lib.hid hwi
     subst hA
     have HI := Lib.hid (fun w => instr_any i w)
     have HAl := Lib.hid ((Below.refl (w.heap.size + 2) wr).alloc (by have := HBs.out; have := HS.out; omega) (insBox i))
     have HWb := Lib.hid (HW.out.to ((Below.refl _ wr).alloc (Nat.le_refl _) (insBox i)))
     have HFr := Lib.hid (InsIn.new wr i)
     clear hbw hwi hz hc hB0 HE HX
     by_cases hi : i.err = 0
     case neg =>
      rw [if_pos hi] at HStep
      have e1 : (i.err == 0) = false := by simp [hi]
      have e2 : (i.err != 0) = true := by simp [hi]
      unfold Ins.val at HI
      generalize i.err = x at HI e1 e2 HStep
      clear hi HWl HG HW
      go_wp2_with fail
      refine (HI.out _).mono ?_
      rintro e w3 ⟨rfl, hb3⟩
      have hB3 := (HB.out.trans HAl.out).trans (hb3.mono (by have := HBs.out; have := HS.out; simp; omega))
      obtain ⟨-, hz, hfr⟩ := HFa.out w3 hB3
      have HZ := Lib.hid (hz.stored bed0 bedP0)
      have HR := Lib.hid (runOut.zero (r := (bed0, (k : Int), x)) (b := w.heap.size + 1) rfl (HBl.out.trans (hB3.mono (by omega))) (by omega))
      obtain ⟨z0, z1, z2, z3⟩ := hz
      clear hb3 hB3
      go_wp2
      exact run_close HZ.out rfl rfl rfl (runOut.of HStep.out HR.out)
     case pos =>
      rw [if_neg (by simpa using hi)] at HStep
      rw [hi] at HI
      have HDo := Lib.hid (fun (w1 : World) (hBw : B ≤ w1.heap.size) (h : WorkX 90 w1 B pb st []) => dom_any B pb st i [] HG.out.good (by have := HG.out.len; have := HG.out.cap; omega) HWi.out (Ins.good_err hi) w1 hBw h)
      have HNx := Lib.hid (fun hz => HG.out.next HWi.out hi hz)
      unfold Ins.val at HI HDo
      generalize doI st i = r at HDo HNx HStep
      clear hi HWl HG HW
      go_wp2_with fail
      refine (HI.out _).mono ?_
      rintro e w3 ⟨rfl, hb3⟩
      have hs3 : B ≤ w3.heap.size := by have := HS.out; have := hb3.size; simp at this; omega
      have HW3 := Lib.hid (HWb.out.to hb3)
      have HB3 := Lib.hid ((HB.out.trans HAl.out).trans (hb3.mono (by have := HBs.out; have := HS.out; simp; omega)))
      obtain ⟨x0, x1, x2, x3, x4, x5, x6⟩ := HFr.out.below hb3 (by simp)
      have HS3 := Lib.hid hs3
      clear hb3 hs3 HWb i0 i1 i2 i3 i4 i5 i6
      go_wp2_with fail
      refine (HDo.out _ HS3.out HW3.out).mono ?_
      rintro e w4 ⟨rfl, hw4, -, hb4⟩
      have hB4 := HB3.out.trans (hb4.mono HBs.out)
      obtain ⟨-, hz, hfr⟩ := HFa.out w4 hB4
      have HB4 := Lib.hid hB4
      have HS4 : Hid (B ≤ w4.heap.size) := Nat.le_trans HS3.out hb4.size
      have HW4 := Lib.hid hw4
      have HZ := Lib.hid (hz.stored bed0 bedP0)
      obtain ⟨z0, z1, z2, z3⟩ := hz
      clear hb4 hw4 hB4 x0 x1 x2 x3 x4 x5 x6 HDo HW3 HB3 HS3
      by_cases hr : r.2 = 0
      case neg =>
       have e1 : (r.2 == 0) = false := by simp [hr]
       have e2 : (r.2 != 0) = true := by simp [hr]
       rw [if_pos hr] at HStep
       have HR := Lib.hid (runOut.zero (r := (bed0, (k : Int), r.2)) (b := w.heap.size + 1) rfl (HBl.out.trans (HB4.out.mono (by omega))) (by omega))
       clear hr
       go_wp2
       exact run_close HZ.out rfl rfl rfl (runOut.of HStep.out HR.out)
      case pos =>
       rw [if_neg (by simpa using hr)] at HStep
       have HN2 := Lib.hid (HNx.out hr)
       have HW5 := Lib.hid (HW4.out hr)
       obtain ⟨t, x⟩ := r
       simp only at hr
       subst hr
       clear HW4 HNx z0 z1 z2 z3 HZ hfr
       go_wp2
       go_roundw
       case rel => exact ⟨k + 1, t, by omega, by go_num, HStep.out, HN2.out, HS4.out, HW5.out, HB4.out⟩
       case measure => simp [intOf]; omega
end Go.Proofs.YtflpikickbellaaGreat
