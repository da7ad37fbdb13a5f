/- Layer 31: the law PassesNames walked. -/
import Derived.Test.YtbnddpknejgmhaaWide1
import Derived.Test.YtbnddpknejgmhaaAlive
import Derived.Deep.RegionWith
import Derived.Deep.DeepCutAuto
namespace Go.Proofs.Ytbnddpknejgmhaa
open Go.RowKit Go.Shelf
set_option maxRecDepth 100000

def tuckI : Ins := ⟨4, true, 0, 3, 0, 1, 0⟩
def rkI (r : Int) : Ins := ⟨8, false, 0, 0, 0, 0, r⟩
def drI (b : Int) : Ins := ⟨9, false, b, 0, 0, 0, 0⟩
def xfI (b a t : Int) : Ins := ⟨7, false, b, a, t, 0, 0⟩
def nmL : List (List Ins) := [[], [rkI 0, rkI 0], [knitI 3 true 0 0, knitI 3 true 0 0], [knitI 3 true 0 0, knitI 3 true 1 0], [knitI 3 true 0 0, ⟨3, true, 0, 1, 0, 2, 0⟩], [xfI 0 0 0, xfI 1 0 0], [xfI 0 0 0, xfI 0 1 0], [drI 0, drI 0], [drI 0, xfI 0 1 1]]
theorem nm_no : ∀ l ∈ nmL, isB 0 l = false ∧ lookE 0 l = 0 := by
  have h : nmL.all (fun l => decide (isB 0 l = false ∧ lookE 0 l = 0)) = true := by decide +kernel
  exact fun l hl => of_decide_eq_true (List.all_eq_true.1 h l hl)
instance (i : Ins) : Decidable i.wf := inferInstanceAs (Decidable (_ ∧ _ ∧ _ ∧ _))
theorem nm_wf : ∀ l ∈ nmL, ∀ i ∈ l, i.wf := by
  have h : nmL.all (fun l => l.all fun i => decide (0 ≤ i.op ∧ i.op ≤ 255 ∧ 0 ≤ i.bed ∧ i.bed ≤ 255)) = true := by decide +kernel
  intro l hl i hi
  have := List.all_eq_true.1 (List.all_eq_true.1 h l hl) i hi
  exact of_decide_eq_true this
theorem nm_len : ∀ l ∈ nmL, l.length ≤ 2 := by
  have h : nmL.all (fun l => decide (l.length ≤ 2)) = true := by decide +kernel
  exact fun l hl => of_decide_eq_true (List.all_eq_true.1 h l hl)
/-- The lists that lie. -/
def Ls (W : World) (ps : List (Nat × List Ins)) : Prop := ∀ x ∈ ps, SlX W W.heap.size (some ⟨x.1, 0, none⟩) x.2
theorem Ls.to {W W' : World} {ps : List (Nat × List Ins)} (h : Ls W ps) (hb : Below W.heap.size W W') : Ls W' ps := fun x hx => ((h x hx).below hb).more hb.size
theorem Ls.push {W : World} {ps : List (Nat × List Ins)} (h : Ls W ps) {l : List Ins} {cs : Array Value} {t : TypeId} {b : Nat} (hb : b = W.heap.size) (hc : cs.toList = (l.map Ins.cells).flatten) (hl : l.length ≤ maxLen) : Ls (W.alloc (.cells cs t)) (ps ++ [(b, l)]) := fun x hx => by
  rcases List.mem_append.1 hx with hx | hx
  · exact h.to ((Below.refl _ W).alloc (Nat.le_refl _) _) x hx
  · rw [List.mem_singleton.1 hx, hb]; exact lit_ins hc hl
theorem wf_all {l : List Ins} (h : (l.all fun i => decide (0 ≤ i.op ∧ i.op ≤ 255 ∧ 0 ≤ i.bed ∧ i.bed ≤ 255)) = true) : ∀ i ∈ l, i.wf := fun i hi => of_decide_eq_true (List.all_eq_true.1 h i hi)
/-- Is of a list that is laid. -/
theorem is_lit (rack : Int) (l : List Ins) (n : Nat) (hn : n = l.length) (hw : (l.all fun i => decide (0 ≤ i.op ∧ i.op ≤ 255 ∧ 0 ≤ i.bed ∧ i.bed ≤ 255)) = true) (hl : l.length ≤ 100) {W : World} {cs : Array Value} {t : TypeId} (hc : cs.toList = (l.map Ins.cells).flatten) (b : Bool) (x : Int) (hb : isB rack l = b ∧ lookE rack l = x) :
    Calls Try.prog 10 #[.int .i64 rack, .slice (some ⟨W.heap.size, 0, none⟩) n n] (W.alloc (.cells cs t)) fun e w' => e = .returned (.tuple #[.bool b, .int .i64 x]) ∧ Below W.heap.size W w' := by
  subst hn
  have h := is_any rack (some ⟨W.heap.size, 0, none⟩) l.length l (wf_all hw) (by omega) (W.alloc (.cells cs t)) (lit_ins hc (by unfold maxLen; omega))
  rw [hb.1, hb.2] at h
  exact h.mono fun e w' ⟨h1, h2⟩ => ⟨h1, ((Below.refl _ W).alloc (Nat.le_refl _) _).trans (h2.mono (by simp))⟩
theorem few_lit (rack : Int) (l : List Ins) (n : Nat) (hn : n = l.length) (hw : (l.all fun i => decide (0 ≤ i.op ∧ i.op ≤ 255 ∧ 0 ≤ i.bed ∧ i.bed ≤ 255)) = true) (hl : l.length ≤ 100) {W : World} {cs : Array Value} {t : TypeId} (hc : cs.toList = (l.map Ins.cells).flatten) (F : List Nat) (x : Int) (hb : fewE rack l = F ∧ lookE rack l = x) :
    Calls Try.prog 14 #[.int .i64 rack, .slice (some ⟨W.heap.size, 0, none⟩) n n] (W.alloc (.cells cs t)) fun e w' => (∃ a c, e = .returned (.tuple #[.slice a F.length c, .int .i64 x]) ∧ SlI w' w'.heap.size a (ints F)) ∧ Below W.heap.size W w' := by
  subst hn
  have h := fewest_any rack (some ⟨W.heap.size, 0, none⟩) l.length l (wf_all hw) (by omega) (Nat.le_refl _) (W.alloc (.cells cs t)) (lit_ins hc (by unfold maxLen; omega))
  rw [hb.1, hb.2] at h
  refine h.mono fun e w' ⟨v, h1, h2, h3⟩ => ?_
  obtain ⟨a, c, rfl⟩ := own_form h2
  exact ⟨⟨a, c, h1, SlI.of_own h2⟩, ((Below.refl _ W).alloc (Nat.le_refl _) _).trans (h3.mono (by simp))⟩
theorem made_slx {w' : World} {base g n : Nat} (h : w'.ownsRow base 50 7 (.slice (some ⟨g, 0, none⟩) n n) n (madeCells (Value.agg #[.int .u8 0, .bool false, .int .u8 0, .int .i64 0, .int .i64 0, .int .i64 0, .int .i64 0]).cells (n * 7)).toList) : SlX w' w'.heap.size (some ⟨g, 0, none⟩) (List.replicate n ins0) := fun _ => by
  refine ⟨g, 0, rfl, (h.lt g rfl).2, fun j cs hj i v hv => ?_⟩
  have hjn : j < n := by
    have := (List.getElem?_eq_some_iff.1 hj).1
    simpa using this
  have hcs : cs = ins0.cells := by
    rw [List.getElem?_map, List.getElem?_replicate, if_pos hjn] at hj
    simpa using hj.symm
  subst hcs
  have hi : i < 7 := (List.getElem?_eq_some_iff.1 hv).1
  have hlt : j * 7 + i < n * 7 := by omega
  rw [Nat.zero_add, h.cellAt (j * 7 + i) hlt]
  unfold madeCells
  rw [Array.getElem?_toList, Array.getElem?_map, Array.getElem?_range, if_pos hlt]
  show some ((#[.int .u8 0, .bool false, .int .u8 0, .int .i64 0, .int .i64 0, .int .i64 0, .int .i64 0] : Array Value)[(j * 7 + i) % 7]!) = some v
  rw [show (j * 7 + i) % 7 = i by omega, ← hv]
  rcases (by omega : i = 0 ∨ i = 1 ∨ i = 2 ∨ i = 3 ∨ i = 4 ∨ i = 5 ∨ i = 6) with rfl | rfl | rfl | rfl | rfl | rfl | rfl <;> rfl
theorem ins_keep {W0 W' w1 : World} {b o : Nat} {i : Ins} (h : InsAt W0 b o i) (hd : W'.heap = W0.heap) (hb : Below W'.heap.size W' w1) : InsAt w1 b o i := by
  have hl : b < W0.heap.size := lt_of_cell h.1
  have h' : InsAt W' b o i := by
    unfold InsAt World.cell? at h ⊢
    rw [hd]; exact h
  exact h'.below hb (by rw [hd]; exact hl)
theorem below_keep {a W0 W' w1 : World} (h : Below a.heap.size a W0) (hd : Below W0.heap.size W0 W') (hb : Below W'.heap.size W' w1) : Below a.heap.size a w1 := by
  have h1 := h.trans (hd.mono h.size)
  exact h1.trans (hb.mono h1.size)
theorem below_same {W0 W' : World} (h1 : W'.os = W0.os) (h2 : W'.tape = W0.tape) (h3 : W'.output = W0.output) (h4 : W'.heap = W0.heap) : Below W0.heap.size W0 W' := ⟨h1, h2, h3, by rw [h4]; exact Nat.le_refl _, fun i _ => by rw [h4]⟩
theorem lit_ints {W : World} {l : List Nat} {cs : Array Value} {t : TypeId} (h : cs.toList = natV l) (hl : l.length ≤ maxLen) : SlI (W.alloc (.cells cs t)) (W.alloc (.cells cs t)).heap.size (some ⟨W.heap.size, 0, none⟩) (ints l) := by
  have ho := World.ownsRow_lit (base := 0) (e := t) (size := 1) W cs l.length (Nat.zero_le _) hl (by rw [← Array.length_toList, h]; simp [natV])
  rw [h] at ho
  exact SlI.of_own ho
theorem may_lit (l : List Ins) (hw : (l.all fun i => decide (0 ≤ i.op ∧ i.op ≤ 255 ∧ 0 ≤ i.bed ∧ i.bed ≤ 255)) = true) (hl : l.length ≤ 100) {W : World} {A : Option Addr} {c : Nat} (hc : l.length ≤ c) (hs : SlX W W.heap.size A l) (ps : List Nat) (n m : Nat) (hn : n = ps.length) (hm : m = l.length) (hp : ps.length ≤ 100) {cs : Array Value} {t : TypeId} (hcs : cs.toList = natV ps) (b : Bool) (x : Int) (hb : mayE 0 l (ints ps) = b ∧ lookE 0 l = x) :
    Calls Try.prog 12 #[.int .i64 0, .slice A m c, .slice (some ⟨W.heap.size, 0, none⟩) n n] (W.alloc (.cells cs t)) fun e w' => e = .returned (.tuple #[.bool b, .int .i64 x]) ∧ Below W.heap.size W w' := by
  subst hn hm
  have hal : Below W.heap.size W (W.alloc (.cells cs t)) := (Below.refl _ W).alloc (Nat.le_refl _) _
  have h := may_any 0 A c l (wf_all hw) (by omega) hc (some ⟨W.heap.size, 0, none⟩) ps.length (ints ps) (by rw [ints_len]; omega) (W.alloc (.cells cs t)) ((hs.below hal).more hal.size) (lit_ints hcs (by unfold maxLen; omega))
  rw [hb.1, hb.2, ints_len] at h
  exact h.mono fun e w' ⟨h1, h2⟩ => ⟨h1, hal.trans (h2.mono hal.size)⟩
theorem look_big : lookE 0 (List.replicate 2001 ins0) = 4 := by
  unfold lookE
  rw [if_neg (by omega), if_pos (by rw [List.length_replicate]; omega)]
theorem zero_wf (n : Nat) : ∀ i ∈ List.replicate n ins0, i.wf := fun i hi => by rw [List.eq_of_mem_replicate hi]; exact ⟨by decide, by decide, by decide, by decide⟩
def ovRows : List RowC := [(false, [⟨2, false, 0, 0⟩])]
theorem ov_chart (W : World) : SlC ((W.alloc (.cells #[.int .u8 2, .bool false, .int .i64 0, .int .i64 0] 56)).alloc (.cells #[.bool false, .slice (some ⟨W.heap.size, 0, none⟩) 1 1] 59))
    ((W.alloc (.cells #[.int .u8 2, .bool false, .int .i64 0, .int .i64 0] 56)).alloc (.cells #[.bool false, .slice (some ⟨W.heap.size, 0, none⟩) 1 1] 59)).heap.size (some ⟨W.heap.size + 1, 0, none⟩) ovRows := fun _ => by
  refine ⟨W.heap.size + 1, 0, rfl, by simp, fun j r hr => ?_⟩
  have hj : j = 0 := by
    have := (List.getElem?_eq_some_iff.1 hr).1
    simp [ovRows] at this; exact this
  subst hj
  have e : r = (false, [⟨2, false, 0, 0⟩]) := by
    simp [ovRows] at hr; exact hr.symm
  subst e
  refine ⟨some ⟨W.heap.size, 0, none⟩, 1, cell_new rfl (by simp) rfl, cell_new rfl (by simp) rfl, Nat.le_refl _, ?_⟩
  have h := lit_stc (W := W) (l := [⟨2, false, 0, 0⟩]) (cs := #[.int .u8 2, .bool false, .int .i64 0, .int .i64 0]) (t := 56) rfl (by decide)
  exact (h.below ((Below.refl _ _).alloc (Nat.le_refl _) _)).more (by simp)
theorem ovRows_wf : RowsWf ovRows := by
  intro r hr s hs
  simp only [ovRows, List.mem_cons, List.not_mem_nil, or_false] at hr
  subst hr
  simp only [List.mem_cons, List.not_mem_nil, or_false] at hs
  subst hs; exact ⟨by decide, by decide⟩
theorem ovRows_front : ∀ r ∈ ovRows, r.1 = false := by
  intro r hr
  simp only [ovRows, List.mem_cons, List.not_mem_nil, or_false] at hr
  subst hr; rfl
theorem comp_nil (start x : Int) (hx : compE start [] = x) (w : World) : Calls Try.prog 18 #[.agg #[.int .i64 start, .slice none 0 0]] w fun e w' => (∃ v, e = .returned (.tuple #[v, .int .i64 x])) ∧ Below w.heap.size w w' :=
  (compile_any start none 0 [] (fun _ h => by cases h) (Or.inl (fun _ h => by cases h)) w (fun h => absurd rfl h)).mono fun e w' ⟨A, c, h1, _, _, h4⟩ => ⟨⟨_, by rw [hx] at h1; exact h1⟩, h4⟩
structure NmAt (w : World) (W : World) : Prop where
  below : Below w.heap.size w W
  tuck : InsAt W w.heap.size 0 tuckI
theorem NmAt.to {w W W' : World} (h : NmAt w W) (hb : Below W.heap.size W W') : NmAt w W' := ⟨h.below.trans (hb.mono h.below.size), h.tuck.below hb (lt_of_cell h.tuck.1)⟩
theorem NmAt.keep {w W0 W' w1 : World} (h : NmAt w W0) (hd : Below W0.heap.size W0 W') (hb : Below W'.heap.size W' w1) : NmAt w w1 := (h.to hd).to hb
set_option maxHeartbeats 16000000 in
theorem names_walk (w : World) : Calls Try.prog 8 #[] w fun e w' => e = .returned (.bool true) ∧ Below w.heap.size w w' := by
  have HK := Lib.hid (fun r b n w => knit_any r b n w)
  go_enter Try.func8, Try.ntmps8
  go_wp2_with fail
  refine (HK.out true 0 0 _).mono ?_
  rintro e w1 ⟨rfl, hb1⟩
  go_wp2_with fail
  refine (HK.out true 0 0 _).mono ?_
  rintro e w2 ⟨rfl, hb2⟩
  go_wp2_with fail
  refine (HK.out true 0 0 _).mono ?_
  rintro e w3 ⟨rfl, hb3⟩
  go_wp2_with fail
  refine (HK.out true 1 0 _).mono ?_
  rintro e w4 ⟨rfl, hb4⟩
  go_wp2_with fail
  refine (HK.out true 0 0 _).mono ?_
  rintro e w5 ⟨rfl, hb5⟩
  unfold knitI Ins.val
  go_upto_region 3 with fail
  refine abs_world (Q := fun W => Code.wp _ _ _ _ W) (F := fun W => NmAt w W ∧ ∃ ps : List (Nat × List Ins), ps.length = 9 ∧ (∀ x ∈ ps, x.2 ∈ nmL) ∧ Ls W ps ∧ ∀ (k : Nat) (x : Nat × List Ins), ps[k]? = some x → W.cell? ⟨w5.heap.size + 1 + 1 + 1 + 1 + 1, k, none⟩ = some (.slice (some ⟨x.1, 0, none⟩) x.2.length x.2.length)) _ ?_ ?_
  · have t0 : NmAt w (w.alloc (.cells #[.int .u8 4, .bool true, .int .u8 0, .int .i64 3, .int .i64 0, .int .i64 1, .int .i64 0] 50)) := ⟨(Below.refl _ w).alloc (Nat.le_refl _) _, cell_new rfl rfl rfl, cell_new rfl rfl rfl, cell_new rfl rfl rfl, cell_new rfl rfl rfl, cell_new rfl rfl rfl, cell_new rfl rfl rfl, cell_new rfl rfl rfl⟩
    have al : ∀ (W : World) (o : Obj), Below W.heap.size W (W.alloc o) := fun W o => (Below.refl _ W).alloc (Nat.le_refl _) o
    have t2 : NmAt w w2 := ((((t0.to (al _ _)).to (al _ _)).to hb1).to hb2)
    have t4 : NmAt w w4 := ((t2.to (al _ _)).to hb3).to hb4
    have t5 : NmAt w w5 := (t4.to (al _ _)).to hb5
    refine ⟨(((((t5.to (al _ _)).to (al _ _)).to (al _ _)).to (al _ _)).to (al _ _)).to (al _ _), [(w.heap.size + 1, []), (w.heap.size + 1 + 1, [rkI 0, rkI 0]), (w2.heap.size, [knitI 3 true 0 0, knitI 3 true 0 0]), (w4.heap.size, [knitI 3 true 0 0, knitI 3 true 1 0]), (w5.heap.size, [knitI 3 true 0 0, ⟨3, true, 0, 1, 0, 2, 0⟩]), (w5.heap.size + 1, [xfI 0 0 0, xfI 1 0 0]), (w5.heap.size + 1 + 1, [xfI 0 0 0, xfI 0 1 0]), (w5.heap.size + 1 + 1 + 1, [drI 0, drI 0]), (w5.heap.size + 1 + 1 + 1 + 1, [drI 0, xfI 0 1 1])], rfl, ?_, ?_, ?_⟩
    · intro x hx
      simp only [List.mem_cons, List.not_mem_nil, or_false] at hx
      rcases hx with rfl | rfl | rfl | rfl | rfl | rfl | rfl | rfl | rfl <;> simp [nmL]
    · have l2 : Ls w2 [(w.heap.size + 1, []), (w.heap.size + 1 + 1, [rkI 0, rkI 0])] := by
        refine Ls.to (Ls.to ?_ hb1) hb2
        refine Ls.push (ps := [(w.heap.size + 1, [])]) ?_ (by simp) rfl (by decide)
        exact Ls.push (ps := []) (fun x hx => by cases hx) (by simp) rfl (by decide)
      have l4 : Ls w4 [(w.heap.size + 1, []), (w.heap.size + 1 + 1, [rkI 0, rkI 0]), (w2.heap.size, [knitI 3 true 0 0, knitI 3 true 0 0])] := by
        refine Ls.to (Ls.to ?_ hb3) hb4
        exact Ls.push (ps := [(w.heap.size + 1, []), (w.heap.size + 1 + 1, [rkI 0, rkI 0])]) l2 rfl rfl (by decide)
      have l5 : Ls w5 [(w.heap.size + 1, []), (w.heap.size + 1 + 1, [rkI 0, rkI 0]), (w2.heap.size, [knitI 3 true 0 0, knitI 3 true 0 0]), (w4.heap.size, [knitI 3 true 0 0, knitI 3 true 1 0])] := by
        refine Ls.to ?_ hb5
        exact Ls.push (ps := [(w.heap.size + 1, []), (w.heap.size + 1 + 1, [rkI 0, rkI 0]), (w2.heap.size, [knitI 3 true 0 0, knitI 3 true 0 0])]) l4 rfl rfl (by decide)
      refine Ls.to ?_ (al _ _)
      exact Ls.push (ps := [(w.heap.size + 1, []), (w.heap.size + 1 + 1, [rkI 0, rkI 0]), (w2.heap.size, [knitI 3 true 0 0, knitI 3 true 0 0]), (w4.heap.size, [knitI 3 true 0 0, knitI 3 true 1 0]), (w5.heap.size, [knitI 3 true 0 0, ⟨3, true, 0, 1, 0, 2, 0⟩]), (w5.heap.size + 1, [xfI 0 0 0, xfI 1 0 0]), (w5.heap.size + 1 + 1, [xfI 0 0 0, xfI 0 1 0]), (w5.heap.size + 1 + 1 + 1, [drI 0, drI 0])])
        (Ls.push (ps := [(w.heap.size + 1, []), (w.heap.size + 1 + 1, [rkI 0, rkI 0]), (w2.heap.size, [knitI 3 true 0 0, knitI 3 true 0 0]), (w4.heap.size, [knitI 3 true 0 0, knitI 3 true 1 0]), (w5.heap.size, [knitI 3 true 0 0, ⟨3, true, 0, 1, 0, 2, 0⟩]), (w5.heap.size + 1, [xfI 0 0 0, xfI 1 0 0]), (w5.heap.size + 1 + 1, [xfI 0 0 0, xfI 0 1 0])])
          (Ls.push (ps := [(w.heap.size + 1, []), (w.heap.size + 1 + 1, [rkI 0, rkI 0]), (w2.heap.size, [knitI 3 true 0 0, knitI 3 true 0 0]), (w4.heap.size, [knitI 3 true 0 0, knitI 3 true 1 0]), (w5.heap.size, [knitI 3 true 0 0, ⟨3, true, 0, 1, 0, 2, 0⟩]), (w5.heap.size + 1, [xfI 0 0 0, xfI 1 0 0])])
            (Ls.push (ps := [(w.heap.size + 1, []), (w.heap.size + 1 + 1, [rkI 0, rkI 0]), (w2.heap.size, [knitI 3 true 0 0, knitI 3 true 0 0]), (w4.heap.size, [knitI 3 true 0 0, knitI 3 true 1 0]), (w5.heap.size, [knitI 3 true 0 0, ⟨3, true, 0, 1, 0, 2, 0⟩])])
              (Ls.push (ps := [(w.heap.size + 1, []), (w.heap.size + 1 + 1, [rkI 0, rkI 0]), (w2.heap.size, [knitI 3 true 0 0, knitI 3 true 0 0]), (w4.heap.size, [knitI 3 true 0 0, knitI 3 true 1 0])]) l5 rfl rfl (by decide))
              (by simp) rfl (by decide))
            (by simp) rfl (by decide))
          (by simp) rfl (by decide))
        (by simp) rfl (by decide)
    · intro k x hx
      have hk : k < 9 := (List.getElem?_eq_some_iff.1 hx).1
      rcases (by omega : k = 0 ∨ k = 1 ∨ k = 2 ∨ k = 3 ∨ k = 4 ∨ k = 5 ∨ k = 6 ∨ k = 7 ∨ k = 8) with rfl | rfl | rfl | rfl | rfl | rfl | rfl | rfl | rfl
      all_goals
        cases hx
        exact cell_new rfl (by simp) rfl
  rintro W ⟨hN, ps, hps, hmem, hLs, hcl⟩
  clear hb1 hb2 hb3 hb4 hb5
  have HN := Lib.hid hN
  have HM := Lib.hid hmem
  have HLs := Lib.hid hLs
  have HC := Lib.hid hcl
  have HP := Lib.hid hps
  have hlt : w5.heap.size + 1 + 1 + 1 + 1 + 1 < W.heap.size := lt_of_cell (hcl 0 _ (List.getElem?_eq_getElem (by omega)))
  clear hN hmem hLs hcl hps
  go_wp2
  go_loopw [3, 4, 5] (fun s3 s4 s5 wr => ∃ (k : Nat) (v4 v5 : Value), k ≤ 9 ∧ s3 = .int .i64 k ∧ v4 = s4 ∧ v5 = s5 ∧ Below W.heap.size W wr) (fun s3 _ _ _ => 9 - (intOf s3).toNat)
  case atStart => exact ⟨0, _, _, by omega, rfl, rfl, rfl, Below.refl _ _⟩
  case round =>
    obtain ⟨k, v4, v5, hk, rfl, rfl, rfl, hbw⟩ := hrel
    by_cases hk9 : k < 9
    case pos =>
      have hx : ps[k]? = some (ps[k]'(by have := HP.out; omega)) := List.getElem?_eq_getElem _
      generalize ps[k]'(by have := HP.out; omega) = x at hx
      have hcx := (bcell hbw hlt _).trans (HC.out k x hx)
      have hxm := HM.out x (List.mem_of_getElem? hx)
      have hno := nm_no x.2 hxm
      have HI := Lib.hid (is_any 0 (some ⟨x.1, 0, none⟩) x.2.length x.2 (nm_wf x.2 hxm) (by have := nm_len x.2 hxm; omega) wr (((HLs.out x (List.mem_of_getElem? hx)).below hbw).more hbw.size))
      rw [hno.1, hno.2] at HI
      have hkd : decide ((k : Int) < 9) = true := decide_eq_true (by omega)
      have hbz := hbw.size
      clear hno hxm hx
      go_wp2_with (go_at_call 10; refine HI.out.mono ?_; rintro e w6 ⟨rfl, hb6⟩)
      go_roundw
      case rel => exact ⟨k + 1, _, _, by omega, by go_num, rfl, rfl, hbw.trans (hb6.mono hbz)⟩
      case measure => simp [intOf]; omega
    case neg =>
      obtain rfl : k = 9 := by omega
      have HN2 := Lib.hid (HN.out.to hbw)
      clear hbw HN HM HLs HC HP hlt hk9
      go_upto_region 9 with fail
      go_cut [6, 7] (fun s6 s7 wx => s6 = .bool true ∧ s7 = .int .i64 0 ∧ NmAt w wx)
      case first =>
        have hN0 := HN2.out
        obtain ⟨c0, c1, c2, c3, c4, c5, c6⟩ := HN2.out.tuck
        go_region_with (first
          | (go_at_call 23; refine (HK.out _ _ _ _).mono ?_; rintro e wk ⟨rfl, hbk⟩; have hN0 := NmAt.keep hN0 (by exact below_same rfl rfl rfl rfl) hbk; obtain ⟨c0, c1, c2, c3, c4, c5, c6⟩ := hN0.tuck; unfold knitI Ins.val)
          | (go_at_call 10; refine (is_lit 2 [knitI 3 true 0 1, knitI 3 true 1 0, tuckI] 3 rfl (by decide +kernel) (by decide) rfl true 0 (by decide +kernel)).mono ?_; rintro e wk ⟨rfl, hbk⟩; have hN0 := NmAt.keep hN0 (by exact below_same rfl rfl rfl rfl) hbk))
        all_goals (go_wp2_with fail; go_meet)
        all_goals exact ⟨rfl, rfl, NmAt.to hN0 (by exact below_same rfl rfl rfl rfl)⟩
      case rest =>
        obtain ⟨rfl, rfl, hN9⟩ := hcut
        obtain ⟨W9, rfl⟩ : ∃ W9, W9 = wc := ⟨wc, rfl⟩
        have HN3 := Lib.hid hN9
        clear hN9
        go_upto_region 10 with fail
        go_cut [8, 9] (fun s8 s9 wx => s8 = .bool false ∧ s9 = .int .i64 0 ∧ NmAt w wx)
        case first =>
          have hN0 := HN3.out
          obtain ⟨c0, c1, c2, c3, c4, c5, c6⟩ := HN3.out.tuck
          go_region_with (first
            | (go_at_call 23; refine (HK.out _ _ _ _).mono ?_; rintro e wk ⟨rfl, hbk⟩; have hN0 := NmAt.keep hN0 (by exact below_same rfl rfl rfl rfl) hbk; obtain ⟨c0, c1, c2, c3, c4, c5, c6⟩ := hN0.tuck; unfold knitI Ins.val)
            | (go_at_call 10; refine (is_lit 1 [knitI 3 true 0 1, knitI 3 true 1 0, tuckI] 3 rfl (by decide +kernel) (by decide) rfl false 0 (by decide +kernel)).mono ?_; rintro e wk ⟨rfl, hbk⟩; have hN0 := NmAt.keep hN0 (by exact below_same rfl rfl rfl rfl) hbk))
          all_goals (go_wp2_with fail; go_meet)
          all_goals exact ⟨rfl, rfl, NmAt.to hN0 (by exact below_same rfl rfl rfl rfl)⟩
        case rest =>
          obtain ⟨rfl, rfl, hN10⟩ := hcut
          obtain ⟨W10, rfl⟩ : ∃ W10, W10 = wc := ⟨wc, rfl⟩
          have HB10 := Lib.hid hN10.below
          clear hN10 HN2 HN3
          go_wp2_with fail
          refine (is_lit 0 [drI 0, drI 1] 2 rfl (by decide +kernel) (by decide) rfl true 0 (by decide +kernel)).mono ?_
          rintro e w11 ⟨rfl, hb11⟩
          have e9 : isB 9 [] = false ∧ lookE 9 [] = 2 := by decide +kernel
          go_wp2_with fail
          have h12 := is_any 9 none 0 [] (fun _ h => by cases h) (by decide) w11 SlX.nil
          rw [e9.1, e9.2] at h12
          refine h12.mono ?_
          rintro e w12 ⟨rfl, hb12⟩
          clear h12 e9
          have HB12 := Lib.hid (HB10.out.trans ((hb11.trans (hb12.mono hb11.size)).mono HB10.out.size))
          clear hb11 hb12
          obtain ⟨i0, hi, hz0, hz1, hz2⟩ := info_parts info_ins
          obtain ⟨w13, hmr, hown, hg⟩ := run_make_full (P := Try.prog) w12 w12.heap.size 22 50 i0 _ 7 Try.underlying22 hi hz0 hz1 .i64 .i64 2001 (by rw [hz2]; omega) (by unfold maxLen; omega) (Nat.le_refl _)
          have hmr2 : (Instr.makeSlice 22 (.int .i64 2001) (.int .i64 2001)).run Try.prog w12 = .ok (.slice (some ⟨w12.heap.size, 0, none⟩) 2001 2001) w13 := hmr
          have h14 := fewest_any 0 (some ⟨w12.heap.size, 0, none⟩) 2001 (List.replicate 2001 ins0) (zero_wf _) (by rw [List.length_replicate]; omega) (by rw [List.length_replicate]; omega) w13 (made_slx hown)
          rw [List.length_replicate, look_big] at h14
          have H14 := Lib.hid h14
          have HB13 := Lib.hid (HB12.out.trans (((Below.refl w12.heap.size w12).grown hg (Nat.le_refl _) (fun k e => by cases e)).mono HB12.out.size))
          clear h14 hmr hown hg
          go_wp2_with fail
          refine H14.out.mono ?_
          rintro e w14 ⟨v14, rfl, _, hb14⟩
          have HB14 := Lib.hid (HB13.out.trans (hb14.mono HB13.out.size))
          clear hb14 H14 hmr2 HB12
          obtain ⟨w15, hmr, hown, hg⟩ := run_make_full (P := Try.prog) w14 w14.heap.size 22 50 i0 _ 7 Try.underlying22 hi hz0 hz1 .i64 .i64 1 (by rw [hz2]; omega) (by unfold maxLen; omega) (Nat.le_refl _)
          have hmr2 : (Instr.makeSlice 22 (.int .i64 1) (.int .i64 1)).run Try.prog w14 = .ok (.slice (some ⟨w14.heap.size, 0, none⟩) 1 1) w15 := hmr
          have h16 := may_any 0 (some ⟨w14.heap.size, 0, none⟩) 1 (List.replicate 1 ins0) (zero_wf _) (by rw [List.length_replicate]; omega) (by rw [List.length_replicate]; omega) none 0 [] (by decide) w15 (made_slx hown) SlI.nil
          have e16 : lookE 0 (List.replicate 1 ins0) = 8 := by decide +kernel
          rw [List.length_replicate, e16] at h16
          generalize mayE 0 (List.replicate 1 ins0) [] = q16 at h16
          have H16 := Lib.hid h16
          have HB15 := Lib.hid (HB14.out.trans (((Below.refl w14.heap.size w14).grown hg (Nat.le_refl _) (fun k e => by cases e)).mono HB14.out.size))
          clear h16 hmr hown hg e16
          go_wp2_with fail
          refine H16.out.mono ?_
          rintro e w16 ⟨rfl, hb16⟩
          have HB16 := Lib.hid (HB15.out.trans (hb16.mono HB15.out.size))
          clear hb16 H16 hmr2 HB14 HB13 HB15
          go_wp2_with fail
          refine (HK.out true 0 1 _).mono ?_
          rintro e w17 ⟨rfl, hb17⟩
          go_wp2_with fail
          refine (HK.out true 1 0 _).mono ?_
          rintro e w18 ⟨rfl, hb18⟩
          have HB18 := Lib.hid (HB16.out.trans ((hb17.trans (hb18.mono hb17.size)).mono HB16.out.size))
          clear hb17 hb18 HB16
          unfold knitI Ins.val
          go_wp2_with fail
          refine (few_lit 0 [rkI 2, knitI 3 true 0 1, knitI 3 true 1 0] 3 rfl (by decide +kernel) (by decide) rfl [1, 2] 0 (by decide +kernel)).mono ?_
          rintro e w19 ⟨⟨a19, c19, rfl, hs19⟩, hb19⟩
          have HS19 := Lib.hid hs19
          have HB19 := Lib.hid (HB18.out.trans (hb19.mono HB18.out.size))
          clear hs19 hb19 HB18
          go_wp2_with fail
          refine (example_any _).mono ?_
          rintro e w20 ⟨a20, c20, rfl, hs20, hc20, hb20⟩
          go_wp2_with fail
          refine (may_lit exL (by decide +kernel) (by decide) hc20 hs20 [2, 2, 1] 3 _ rfl rfl (by decide) rfl false 0 (by decide +kernel)).mono ?_
          rintro e w21 ⟨rfl, hb21⟩
          have hb1921 := hb20.trans (hb21.mono hb20.size)
          clear hs20 hc20 hb20 hb21
          go_wp2_with fail
          refine (example_any _).mono ?_
          rintro e w22 ⟨a22, c22, rfl, hs22, hc22, hb22⟩
          go_wp2_with fail
          refine (may_lit exL (by decide +kernel) (by decide) hc22 hs22 [1, 1, 2, 1, 1] 5 _ rfl rfl (by decide) rfl true 0 (by decide +kernel)).mono ?_
          rintro e w23 ⟨rfl, hb23⟩
          have hb1923 := hb1921.trans ((hb22.trans (hb23.mono hb22.size)).mono hb1921.size)
          clear hs22 hc22 hb22 hb23 hb1921
          go_wp2_with fail
          refine (comp_nil 102 2 (by decide +kernel) _).mono ?_
          rintro e w24 ⟨⟨v24, rfl⟩, hb24⟩
          have hb1924 := hb1923.trans (hb24.mono hb1923.size)
          clear hb24 hb1923
          go_wp2_with fail
          have h25 := compile_any 0 (some ⟨w24.heap.size + 1, 0, none⟩) 1 ovRows ovRows_wf (Or.inl ovRows_front) _ (ov_chart w24)
          have e25 : compE 0 ovRows = 2 := by decide +kernel
          refine h25.mono ?_
          rintro e w25 ⟨A25, c25, rfl, _, _, hb25⟩
          rw [e25]
          generalize (compO 0 ovRows).length = n25
          have hb2425 : Below w24.heap.size w24 w25 := (((Below.refl _ w24).alloc (Nat.le_refl _) _).alloc (by simp) _).trans (hb25.mono (by simp; omega))
          have hb1925 := hb1924.trans (hb2425.mono hb1924.size)
          clear hb25 h25 e25 hb2425 hb1924
          go_wp2_with fail
          refine (comp_nil 201 8 (by decide +kernel) _).mono ?_
          rintro e w26 ⟨⟨v26, rfl⟩, hb26⟩
          have hb1926 := hb1925.trans (hb26.mono hb1925.size)
          clear hb26 hb1925
          go_wp2_with fail
          refine (alive_any _).mono ?_
          rintro e w27 ⟨rfl, hb27⟩
          have hb1927 := hb1926.trans (hb27.mono hb1926.size)
          have HI := Lib.hid (fun (cs : Array Value) (hcs : cs.toList = natV [1, 2]) => (show SlI (w27.alloc (.cells cs 3)) (w27.alloc (.cells cs 3)).heap.size a19 (ints [1, 2]) ∧ SlI (w27.alloc (.cells cs 3)) (w27.alloc (.cells cs 3)).heap.size (some ⟨w27.heap.size, 0, none⟩) (ints [1, 2]) by
            have hb := hb1927.alloc hb1927.size (.cells cs 3)
            exact ⟨(HS19.out.below hb).more hb.size, lit_ints hcs (by decide)⟩))
          have HB27 := Lib.hid (HB19.out.trans (hb1927.mono HB19.out.size))
          clear hb27 hb1926 hb1927 HS19 HB19
          go_wp2_with fail
          refine (sameInts_any a19 (some ⟨w27.heap.size, 0, none⟩) c19 2 (ints [1, 2]) _ (HI.out _ rfl).1 (HI.out _ rfl).2 (by decide)).mono ?_
          rintro e w28 ⟨rfl, hb28⟩
          have HB28 := Lib.hid (HB27.out.trans ((((Below.refl _ w27).alloc (Nat.le_refl _) _).trans (hb28.mono (by simp))).mono HB27.out.size))
          clear hb28 HI HB27
          go_wp2_with fail
          refine (wide_any _).mono ?_
          rintro e w29 ⟨rfl, hb29⟩
          have HB29 := Lib.hid (HB28.out.trans (hb29.mono HB28.out.size))
          clear hb29 HB28
          go_wp2
          go_ret
          exact ⟨rfl, HB29.out⟩
end Go.Proofs.Ytbnddpknejgmhaa
