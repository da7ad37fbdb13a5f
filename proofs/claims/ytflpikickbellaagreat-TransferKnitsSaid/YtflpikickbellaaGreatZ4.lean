/- Layer 32, plain. -/
import Derived.Test.YtflpikickbellaaGreatZ3
import Derived.Deep.RegionHeld3
namespace Go.Proofs.YtflpikickbellaaGreat
open Go.RowKit
set_option maxRecDepth 100000
structure Sft where
 to_ : List Int
 first : List (Int × Int)
abbrev Sft.n (s : Sft) : Nat := s.to_.length
def offN (s : Sft) (i : Nat) : Int := s.to_.getD i 0 - i
def movedN (s : Sft) (i : Nat) : Bool := decide (offN s i ≠ 0) || s.first.any fun p => decide (p.2 = (i : Int))
def waitN (s : Sft) (come : Nat → Bool) (i : Nat) : Bool := movedN s i && !come i
def holdsS (s : Sft) (come : Nat → Bool) (stop : Int) (p : Int × Int) : Bool := decide (offN s p.2.toNat = stop) && (decide (offN s p.1.toNat ≠ stop) && waitN s come p.1.toNat)
def readyN (s : Sft) (come : Nat → Bool) (stop : Int) : Bool := !(s.first.any (holdsS s come stop))
def holdsI (s : Sft) (come : Nat → Bool) (stop : Int) (i : Nat) (p : Int × Int) : Bool := decide (p.2 = (i : Int)) && (decide (offN s p.1.toNat = stop) && waitN s come p.1.toNat)
def freeN (s : Sft) (come : Nat → Bool) (stop : Int) (i : Nat) : Bool := !(s.first.any (holdsI s come stop i))
def atN (s : Sft) (come : Nat → Bool) (stop : Int) (i : Nat) : Bool := decide (offN s i = stop) && waitN s come i
def hasN (s : Sft) (come : Nat → Bool) (stop : Int) : Bool := (List.range s.n).any (atN s come stop)
def stops17 : List Int := (List.range 17).map fun k : Nat => (k : Int) - 8
def stopsN (s : Sft) (come : Nat → Bool) : List Int := stops17.filter (hasN s come)
def nextN (s : Sft) (come : Nat → Bool) : Option Int := stops17.find? fun t => hasN s come t && readyN s come t
def pickN (s : Sft) (come : Nat → Bool) (stop : Int) : Option Nat := (List.range s.n).find? fun i => atN s come stop i && freeN s come stop i
def putN (come : Nat → Bool) (i : Nat) : Nat → Bool := fun j => come j || decide (j = i)
def innerN (s : Sft) (stop : Int) : Nat → (Nat → Bool) → List Int → Option ((Nat → Bool) × List Int)
 | 0, come, out => some (come, out)
 | f + 1, come, out =>
   if hasN s come stop then
    match pickN s come stop with
    | none => none
    | some i => innerN s stop f (putN come i) (out ++ [(i : Int)])
   else some (come, out)
def outerN (s : Sft) : Nat → (Nat → Bool) → List Int → Option (List Int)
 | 0, _, out => some out
 | f + 1, come, out =>
   if stopsN s come = [] then some out
   else match nextN s come with
    | none => none
    | some stop => match innerN s stop s.n come out with
      | none => none
      | some r => outerN s f r.1 r.2
def badT (t : Int) (i : Nat) : Bool := decide (t < 0) || decide (100 < t) || decide (8 < max (t - i) (i - t))
def ltP (p q : Int × Int) : Bool := decide (p.1 < q.1) || (decide (p.1 = q.1) && decide (p.2 < q.2))
def badF (s : Sft) (i : Nat) (p : Int × Int) : Bool :=
 decide (min p.1 p.2 < 0) || decide ((s.n : Int) ≤ max p.1 p.2) || decide (p.1 = p.2) || (decide (0 < i) && !(ltP (s.first.getD (i - 1) (0, 0)) p))
def sftE (s : Sft) : Int :=
 if 40 < s.n then 4
 else if (List.range s.n).any (fun i => badT (s.to_.getD i 0) i) then 8
 else if (List.range s.first.length).any (fun i => badF s i (s.first.getD i (0, 0))) then 8
 else 0
def ordE (s : Sft) : List Int × Int :=
 if sftE s ≠ 0 then ([], sftE s)
 else match outerN s s.n (fun _ => false) [] with
  | none => ([], 6)
  | some l => (l, 0)
def leftN (s : Sft) (come : Nat → Bool) : Nat := (List.range s.n).countP (waitN s come)
structure SftOk (s : Sft) : Prop where
 len : s.n ≤ 40
 to_ : ∀ i, i < s.n → 0 ≤ s.to_.getD i 0 ∧ s.to_.getD i 0 ≤ 100 ∧ -8 ≤ offN s i ∧ offN s i ≤ 8
 first : ∀ p ∈ s.first, 0 ≤ p.1 ∧ p.1 < s.n ∧ 0 ≤ p.2 ∧ p.2 < s.n ∧ p.1 ≠ p.2
theorem sftE_ok {s : Sft} (h : sftE s = 0) : SftOk s := by
 unfold sftE at h
 split at h
 · cases h
 rename_i h1
 split at h
 · cases h
 rename_i h2
 split at h
 · cases h
 rename_i h3
 refine ⟨by omega, fun i hi => ?_, fun p hp => ?_⟩
 · rw [Bool.not_eq_true, List.any_eq_false] at h2
   have := h2 i (List.mem_range.2 hi)
   unfold badT at this
   simp only [Bool.or_eq_true, decide_eq_true_eq, not_or] at this
   unfold offN
   omega
 · rw [Bool.not_eq_true, List.any_eq_false] at h3
   obtain ⟨j, hj⟩ := List.mem_iff_getElem?.1 hp
   have hjl := (List.getElem?_eq_some_iff.1 hj).1
   have := h3 j (List.mem_range.2 hjl)
   rw [List.getD_eq_getElem?_getD, hj, Option.getD_some] at this
   unfold badF at this
   simp only [Bool.or_eq_true, decide_eq_true_eq, not_or] at this
   omega
theorem mem_stops {t : Int} : t ∈ stops17 ↔ -8 ≤ t ∧ t ≤ 8 := by
 unfold stops17
 rw [List.mem_map]
 constructor
 · rintro ⟨k, hk, rfl⟩
   have := List.mem_range.1 hk
   omega
 · intro h
   exact ⟨(t + 8).toNat, List.mem_range.2 (by omega), by omega⟩
theorem hasN_iff {s : Sft} {come : Nat → Bool} {t : Int} : hasN s come t = true ↔ ∃ i, i < s.n ∧ offN s i = t ∧ waitN s come i = true := by
 unfold hasN atN
 rw [List.any_eq_true]
 constructor
 · rintro ⟨i, hi, h⟩
   rw [Bool.and_eq_true, decide_eq_true_eq] at h
   exact ⟨i, List.mem_range.1 hi, h.1, h.2⟩
 · rintro ⟨i, hi, h1, h2⟩
   exact ⟨i, List.mem_range.2 hi, by rw [Bool.and_eq_true, decide_eq_true_eq]; exact ⟨h1, h2⟩⟩
theorem leftN_zero {s : Sft} (hs : SftOk s) {come : Nat → Bool} : leftN s come = 0 ↔ stopsN s come = [] := by
 unfold leftN stopsN
 rw [List.countP_eq_zero, List.filter_eq_nil_iff]
 constructor
 · intro h t _ ht
   obtain ⟨i, hi, -, hw⟩ := hasN_iff.1 ht
   exact h i (List.mem_range.2 hi) hw
 · intro h i hi hw
   have hi := List.mem_range.1 hi
   have := hs.to_ i hi
   exact h (offN s i) (mem_stops.2 this.2.2) (hasN_iff.2 ⟨i, hi, rfl, hw⟩)
theorem pickN_some {s : Sft} {come : Nat → Bool} {t : Int} {i : Nat} (h : pickN s come t = some i) : i < s.n ∧ offN s i = t ∧ waitN s come i = true ∧ freeN s come t i = true := by
 unfold pickN at h
 have h1 := List.find?_some h
 have h2 := List.mem_range.1 (List.mem_of_find?_eq_some h)
 simp only [atN, Bool.and_eq_true, decide_eq_true_eq] at h1
 exact ⟨h2, h1.1.1, h1.1.2, h1.2⟩
theorem waitN_put {s : Sft} {come : Nat → Bool} {i j : Nat} : waitN s (putN come i) j = (waitN s come j && !decide (j = i)) := by
 unfold waitN putN
 rw [Bool.not_or, Bool.and_assoc]
theorem leftN_put {s : Sft} {come : Nat → Bool} {i : Nat} (hi : i < s.n) (hw : waitN s come i = true) : leftN s (putN come i) + 1 = leftN s come := by
 unfold leftN
 have h1 : ∀ n, i < n → (List.range n).countP (waitN s (putN come i)) + 1 = (List.range n).countP (waitN s come) := by
  intro n
  induction n with
  | zero => intro h; omega
  | succ n ih =>
    intro h
    rw [List.range_succ, List.countP_append, List.countP_append]
    by_cases e : i = n
    · subst e
      have h2 : (List.range i).countP (waitN s (putN come i)) = (List.range i).countP (waitN s come) := by
       apply List.countP_congr
       intro j hj
       have := List.mem_range.1 hj
       rw [waitN_put, decide_eq_false (show ¬ j = i by omega)]
       simp
      have h3 : [i].countP (waitN s (putN come i)) = 0 := by
       rw [List.countP_eq_zero]
       intro j hj
       rw [List.mem_singleton.1 hj, waitN_put]
       simp
      have h4 : [i].countP (waitN s come) = 1 := by
       rw [List.countP_cons_of_pos hw]; rfl
      omega
    · have h2 := ih (by omega)
      have h3 : [n].countP (waitN s (putN come i)) = [n].countP (waitN s come) := by
       apply List.countP_congr
       intro j hj
       rw [List.mem_singleton.1 hj, waitN_put, decide_eq_false (show ¬ n = i by omega)]
       simp
      omega
 exact h1 s.n hi
structure Stc where
 kind : Int
 purl : Bool
 a : Int
 b : Int
@[go_sem] def Stc.val (s : Stc) : Value := .agg #[.int .u8 s.kind, .bool s.purl, .int .i64 s.a, .int .i64 s.b]
def Stc.cells (s : Stc) : List Value := [.int .u8 s.kind, .bool s.purl, .int .i64 s.a, .int .i64 s.b]
def Stc.wf (s : Stc) : Prop := 0 ≤ s.kind ∧ s.kind ≤ 255
def Stc.ok (s : Stc) : Bool := decide (1 ≤ s.kind ∧ s.kind ≤ 10) && (decide ((formI s.kind).a0 ≤ s.a ∧ s.a ≤ (formI s.kind).a1) && (decide ((formI s.kind).b0 ≤ s.b ∧ s.b ≤ (formI s.kind).b1) && !(s.purl && !(formI s.kind).sided)))
def Stc.err (s : Stc) : Int := if s.ok then 0 else 8
theorem within_any (n e0 e1 : Int) (w : World) : Calls Tryz.prog 148 #[.int .i64 n, .agg #[.int .i64 e0, .int .i64 e1]] w fun e w' => e = .returned (.bool (decide (e0 ≤ n ∧ n ≤ e1))) ∧ Below w.heap.size w w' := by
 have hb := Lib.hid (fun o => (Below.refl w.heap.size w).alloc (Nat.le_refl _) o)
 go_enter Tryz.func148, Tryz.ntmps148
 go_wp2
 all_goals go_ret
 all_goals exact ⟨ret_bool (by rw [Bool.eq_iff_iff]; simp [*]; try omega), hb.out _⟩
def StcAt (w : World) (b o : Nat) (s : Stc) : Prop := w.cell? ⟨b, o, none⟩ = some (.int .u8 s.kind) ∧ w.cell? ⟨b, o + 1, none⟩ = some (.bool s.purl) ∧ w.cell? ⟨b, o + 2, none⟩ = some (.int .i64 s.a) ∧ w.cell? ⟨b, o + 3, none⟩ = some (.int .i64 s.b)
theorem StcAt.below {w w' : World} {B b o : Nat} {s : Stc} (h : StcAt w b o s) (hb : Below B w w') (hB : b < B) : StcAt w' b o s := by
 unfold StcAt
 simp only [bcell hb hB]
 exact h
theorem FormAt.below {w w' : World} {B b o : Nat} {f : Form} (h : FormAt w b o f) (hb : Below B w w') (hB : b < B) : FormAt w' b o f := by
 unfold FormAt
 simp only [bcell hb hB]
 exact h
theorem StcAt.lt {w : World} {b o : Nat} {s : Stc} (h : StcAt w b o s) : b < w.heap.size := lt_of_cell h.1
theorem FormAt.lt {w : World} {b o : Nat} {f : Form} (h : FormAt w b o f) : b < w.heap.size := lt_of_cell h.1
def RetE (v : Int) (w : World) (e : Ending) (w' : World) : Prop := e = .returned (.int .i64 v) ∧ Below w.heap.size w w'
theorem RetE.mk' {v x : Int} {w w' : World} (h : v = x) (hb : Below w.heap.size w w') : RetE v w (.returned (.int .i64 x)) w' := ⟨by rw [h], hb⟩
set_option maxHeartbeats 2000000 in
theorem scheck_any (s : Stc) (hs : s.wf) (w : World) : Calls Tryz.prog 110 #[s.val] w fun e w' => RetE s.err w e w' := by
 have HF := forms_any s.kind hs
 have HE : Hid (s.err = if decide (1 ≤ s.kind ∧ s.kind ≤ 10) && (decide ((formI s.kind).a0 ≤ s.a ∧ s.a ≤ (formI s.kind).a1) && (decide ((formI s.kind).b0 ≤ s.b ∧ s.b ≤ (formI s.kind).b1) && !(s.purl && !(formI s.kind).sided))) then 0 else 8) := rfl
 generalize s.err = er at HE ⊢
 generalize formI s.kind = f at HF HE
 have hwa := Lib.hid (fun w => within_any s.a f.a0 f.a1 w)
 have hwb := Lib.hid (fun w => within_any s.b f.b0 f.b1 w)
 generalize decide (f.a0 ≤ s.a ∧ s.a ≤ f.a1) = qa at HE hwa
 generalize decide (f.b0 ≤ s.b ∧ s.b ≤ f.b1) = qb at HE hwb
 generalize decide (1 ≤ s.kind ∧ s.kind ≤ 10) = qk at HE HF
 have HF2 := Lib.hid (show ∀ w, Calls Tryz.prog 111 #[.int .u8 s.kind] w fun e w' => e = .returned (.tuple #[.agg #[.string f.letter, .int .i64 f.a0, .int .i64 f.a1, .int .i64 f.b0, .int .i64 f.b1, .bool f.sided, .int .i64 f.uses, .int .i64 f.made], .bool qk]) ∧ Below w.heap.size w w' from HF)
 clear HF
 have HE2 := Lib.hid HE.out
 clear HE
 go_enter Tryz.func110, Tryz.ntmps110
 go_upto_region 2 with (go_at_call 111; refine (HF2.out _).mono ?_; rintro e w1 ⟨rfl, hb1⟩)
 refine abs_world (Q := fun W => Code.wp _ _ _ _ W) (F := fun W => Below w.heap.size w W ∧ StcAt W w.heap.size 0 s ∧ FormAt W w1.heap.size 0 f) _ ?_ ?_
 · have hs1 : StcAt w1 w.heap.size 0 s := by
    have h0 : StcAt (w.alloc (.cells #[.int .u8 s.kind, .bool s.purl, .int .i64 s.a, .int .i64 s.b] 96)) w.heap.size 0 s := ⟨cell_new rfl rfl rfl, cell_new rfl rfl rfl, cell_new rfl rfl rfl, cell_new rfl rfl rfl⟩
    exact h0.below (B := w.heap.size + 1) (hb1.mono (by simp)) (by omega)
   have hsz : w.heap.size + 1 ≤ w1.heap.size := by have := hb1.size; simpa using this
   have hbw1 : Below w.heap.size w w1 := ((Below.refl _ w).alloc (Nat.le_refl _) _).trans (hb1.mono (by simp))
   refine ⟨hbw1.alloc (by omega) _, hs1.below (B := w1.heap.size) ((Below.refl _ _).alloc (Nat.le_refl _) _) (by omega), ?_⟩
   exact ⟨cell_new rfl rfl rfl, cell_new rfl rfl rfl, cell_new rfl rfl rfl, cell_new rfl rfl rfl, cell_new rfl rfl rfl, cell_new rfl rfl rfl, cell_new rfl rfl rfl, cell_new rfl rfl rfl⟩
 rintro W ⟨hbW, hS, hFm⟩
 have HK := Lib.hid (fun w2 (hb : Below W.heap.size W w2) => (⟨hS.below hb hS.lt, hFm.below hb hFm.lt⟩ : StcAt w2 w.heap.size 0 s ∧ FormAt w2 w1.heap.size 0 f))
 obtain ⟨s0, s1, s2, s3⟩ := hS
 obtain ⟨f0, f1, f2, f3, f4, f5, f6, f7⟩ := hFm
 simp only [Nat.zero_add] at s1 s2 s3 f1 f2 f3 f4 f5 f6 f7
 have HB := Lib.hid hbW
 clear hbW HF2
 cases qk with
 | false =>
   have HR : Hid (er = 8) := HE2.out
   clear HE2 HK
   go_wp2
   go_ret
   exact RetE.mk' HR.out HB.out
 | true =>
   cases qa with
   | false =>
     have HR : Hid (er = 8) := HE2.out
     clear HE2
     go_wp2_with (go_at_call_of 148 (Value.int IntKind.i64 s.a); refine (hwa.out _).mono ?_; rintro e w2 ⟨rfl, hb2⟩)
     go_ret
     exact RetE.mk' HR.out (HB.out.trans (hb2.mono HB.out.size))
   | true =>
     cases qb with
     | false =>
       have HR : Hid (er = 8) := HE2.out
       clear HE2
       go_wp2_with (first
        | (go_at_call_of 148 (Value.int IntKind.i64 s.a); refine (hwa.out _).mono ?_; rintro e w2 ⟨rfl, hb2⟩
           obtain ⟨⟨t0, t1, t2, t3⟩, g0, g1, g2, g3, g4, g5, g6, g7⟩ := HK.out _ hb2
           simp only [Nat.zero_add] at t1 t2 t3 g1 g2 g3 g4 g5 g6 g7)
        | (go_at_call_of 148 (Value.int IntKind.i64 s.b); refine (hwb.out _).mono ?_; rintro e w3 ⟨rfl, hb3⟩))
       go_ret
       exact RetE.mk' HR.out (HB.out.trans ((hb2.trans (hb3.mono hb2.size)).mono HB.out.size))
     | true =>
       obtain ⟨pl, hpl⟩ : ∃ p, p = s.purl := ⟨_, rfl⟩
       obtain ⟨sd, hsd⟩ : ∃ p, p = f.sided := ⟨_, rfl⟩
       rw [← hpl] at s1
       rw [← hpl, ← hsd] at HE2
       have HK2 := Lib.hid (fun (w2 : World) (hb : Below W.heap.size W w2) => (show w2.cell? ⟨w.heap.size, 1, none⟩ = some (.bool pl) ∧ w2.cell? ⟨w1.heap.size, 5, none⟩ = some (.bool sd) ∧ w2.cell? ⟨w.heap.size, 3, none⟩ = some (.int .i64 s.b) ∧ w2.cell? ⟨w1.heap.size, 3, none⟩ = some (.int .i64 f.b0) ∧ w2.cell? ⟨w1.heap.size, 4, none⟩ = some (.int .i64 f.b1) by
        obtain ⟨⟨v0, v1, v2, v3⟩, k0, k1, k2, k3, k4, k5, k6, k7⟩ := HK.out w2 hb
        simp only [Nat.zero_add] at v1 v2 v3 k1 k2 k3 k4 k5 k6 k7
        exact ⟨by rw [v1, hpl], by rw [k5, hsd], v3, k3, k4⟩))
       clear hpl hsd HK
       cases pl <;> cases sd
       all_goals
        go_wp2_with (first
         | (go_at_call_of 148 (Value.int IntKind.i64 s.a); refine (hwa.out _).mono ?_; rintro e w2 ⟨rfl, hb2⟩
            obtain ⟨t0, t1, t2, t3, t4⟩ := HK2.out _ hb2)
         | (go_at_call_of 148 (Value.int IntKind.i64 s.b); refine (hwb.out _).mono ?_; rintro e w3 ⟨rfl, hb3⟩
            obtain ⟨v0, v1, v2, v3, v4⟩ := HK2.out _ (hb2.trans (hb3.mono hb2.size))))
        go_ret
        exact RetE.mk' HE2.out (HB.out.trans ((hb2.trans (hb3.mono hb2.size)).mono HB.out.size))
def loopsI (s : Stc) (how : Int) : Int := if how = 1 then 1 else if how = 2 then s.a else if how = 3 then s.a + s.b else 0
theorem loops_any (s : Stc) (how : Int) (hh : 0 ≤ how ∧ how ≤ 3) (ha : 0 ≤ s.a ∧ s.a ≤ 1000) (hb : 0 ≤ s.b ∧ s.b ≤ 1000) (w : World) : Calls Tryz.prog 112 #[s.val, .int .i64 how] w fun e w' => RetE (loopsI s how) w e w' := by
 have hbl := Lib.hid (fun o => (Below.refl w.heap.size w).alloc (Nat.le_refl _) o)
 have hw : IntKind.i64.wrap (s.a + s.b) = s.a + s.b := IntWalk.i64_in _ (by omega)
 have hi0 : ∀ (x y : Int) (W : World), (Instr.index 209 (.agg #[.int .i64 0, .int .i64 1, .int .i64 x, .int .i64 y]) (.int .i64 0)).run Tryz.prog W = .ok (.int .i64 0) W := fun x y W => by kernel_rfl
 have hi1 : ∀ (x y : Int) (W : World), (Instr.index 209 (.agg #[.int .i64 0, .int .i64 1, .int .i64 x, .int .i64 y]) (.int .i64 1)).run Tryz.prog W = .ok (.int .i64 1) W := fun x y W => by kernel_rfl
 have hi2 : ∀ (x y : Int) (W : World), (Instr.index 209 (.agg #[.int .i64 0, .int .i64 1, .int .i64 x, .int .i64 y]) (.int .i64 2)).run Tryz.prog W = .ok (.int .i64 x) W := fun x y W => by kernel_rfl
 have hi3 : ∀ (x y : Int) (W : World), (Instr.index 209 (.agg #[.int .i64 0, .int .i64 1, .int .i64 x, .int .i64 y]) (.int .i64 3)).run Tryz.prog W = .ok (.int .i64 y) W := fun x y W => by kernel_rfl
 rcases (by omega : how = 0 ∨ how = 1 ∨ how = 2 ∨ how = 3) with rfl | rfl | rfl | rfl
 all_goals
  go_enter Tryz.func112, Tryz.ntmps112
  go_wp2
  go_ret
  refine RetE.mk' ?_ (hbl.out _)
  simp [loopsI]
def SlT (w : World) (B : Nat) (A : Option Addr) (l : List Stc) : Prop := SlS 4 w B A (l.map Stc.cells)
theorem SlT.below {w w' : World} {B : Nat} {A : Option Addr} {l : List Stc} (h : SlT w B A l) (hb : Below B w w') : SlT w' B A l := SlS.below h hb
theorem SlT.more {w : World} {B B' : Nat} {A : Option Addr} {l : List Stc} (h : SlT w B A l) (hB' : B ≤ B') : SlT w B' A l := SlS.more h hB'
theorem SlT.nil {w : World} {B : Nat} {A : Option Addr} : SlT w B A [] := SlS.nil
theorem SlT.at_ {w : World} {B : Nat} {A : Option Addr} {l : List Stc} (h : SlT w B A l) {k : Nat} (hk : k < l.length) :
 ∃ b off i, A = some ⟨b, off, none⟩ ∧ b < B ∧ l[k]? = some i ∧ StcAt w b (off + k * 4) i := by
 obtain ⟨b, off, cs, e, hB, hz, hc⟩ := SlS.at_ h (k := k) (by simpa using hk)
 rw [List.getElem?_map] at hz
 cases hl : l[k]? with
 | none => rw [hl] at hz; cases hz
 | some i =>
   rw [hl] at hz
   simp only [Option.map_some, Option.some.injEq] at hz
   subst hz
   exact ⟨b, off, i, e, hB, rfl, hc 0 _ rfl, hc 1 _ rfl, hc 2 _ rfl, hc 3 _ rfl⟩
set_option maxHeartbeats 1000000 in
theorem idxT_any (g : Nat) (lb : Array Value) (eg : ∀ args w, (callFunc g args).run Tryz.prog w = .ok (.enter g args) w) (pr : Stc → Bool) (A : Option Addr) (c : Nat) (zs : List Stc) (w : World)
 (hs : SlT w w.heap.size A zs) (hn : zs.length ≤ 4611686018427387904) (hp : ∀ x, x ∈ zs → ∀ w', Below w.heap.size w w' → Calls Tryz.prog g (#[x.val] ++ lb) w' fun e w2 => e = .returned (.bool (pr x)) ∧ Below w'.heap.size w' w2) :
 Calls Tryz.prog 140 #[.slice A zs.length c, .func (.func g) #[] lb] w fun e w' => e = .returned (.int .i64 (idxE pr zs)) ∧ Below w.heap.size w w' := by
 go_enter Tryz.func140, Tryz.ntmps140
 go_wp2
 go_loopw [8] (fun i wr => ∃ k : Nat, k ≤ zs.length ∧ i = .int .i64 k ∧ Hid (∀ j y, j < k → zs[j]? = some y → pr y = false) ∧ Below w.heap.size w wr) (fun i _ => zs.length - (intOf i).toNat)
 case atStart => exact ⟨0, Nat.zero_le _, rfl, fun j _ hj => absurd hj (Nat.not_lt_zero j), Below.refl _ _⟩
 case round =>
  obtain ⟨k, hk, rfl, H, hbw⟩ := hrel
  by_cases hlt : k < zs.length
  · obtain ⟨b, off, z, rfl, hB, hr, hc⟩ := hs.at_ hlt
    obtain ⟨c0, c1, c2, c3⟩ := hc.below hbw hB
    have hcall := hp z (List.mem_of_getElem? hr) wr hbw
    have HR : Hid (zs[k]? = some z) := hr
    clear hr hs hp hc
    cases hq : pr z with
    | true =>
      rw [hq] at hcall
      have HQ : Hid (pr z = true) := hq
      clear hq
      go_wp2_with (go_at_fn g; refine hcall.mono ?_; rintro e w' ⟨rfl, hb1⟩)
      go_ret
      exact ⟨ret_int (idxE_hit HR.out HQ.out H.out).symm, hbw.trans (hb1.mono hbw.size)⟩
    | false =>
      rw [hq] at hcall
      have HQ : Hid (pr z = false) := hq
      clear hq
      go_wp2_with (go_at_fn g; refine hcall.mono ?_; rintro e w' ⟨rfl, hb1⟩)
      go_roundw
      case rel =>
       refine ⟨k + 1, by omega, by go_num, fun j y hj hy => ?_, hbw.trans (hb1.mono hbw.size)⟩
       by_cases e : j = k
       · subst e; rw [HR.out] at hy; injection hy with hy; subst hy; exact HQ.out
       · exact H.out j y (by omega) hy
      case measure => simp [intOf]; omega
  · have HE : Hid (idxE pr zs = -1) := idxE_none (fun j y hj => H.out j y (by omega))
    clear H hs hp
    go_wp2
    go_ret
    exact ⟨ret_int HE.out.symm, hbw⟩
theorem contT_any (g : Nat) (lb : Array Value) (eg : ∀ args w, (callFunc g args).run Tryz.prog w = .ok (.enter g args) w) (pr : Stc → Bool) (A : Option Addr) (c : Nat) (zs : List Stc) (w : World)
 (hs : SlT w w.heap.size A zs) (hn : zs.length ≤ 4611686018427387904) (hp : ∀ x, x ∈ zs → ∀ w', Below w.heap.size w w' → Calls Tryz.prog g (#[x.val] ++ lb) w' fun e w2 => e = .returned (.bool (pr x)) ∧ Below w'.heap.size w' w2) :
 Calls Tryz.prog 96 #[.slice A zs.length c, .func (.func g) #[] lb] w fun e w' => e = .returned (.bool (zs.any pr)) ∧ Below w.heap.size w w' := by
 have HA : Hid (decide (0 ≤ idxE pr zs) = zs.any pr) := idxE_any pr zs
 have hcall := Lib.hid (idxT_any g lb eg pr A c zs w hs hn hp)
 clear hs hp eg
 go_enter Tryz.func96, Tryz.ntmps96
 go_wp2_with (go_at_call 140; refine hcall.out.mono ?_; rintro e w' ⟨rfl, hb1⟩)
 go_ret
 exact ⟨ret_bool (by first | exact HA.out | (rw [← HA.out]; simp)), hb1⟩
theorem formI_rng {k : Int} : 0 ≤ (formI k).uses ∧ (formI k).uses ≤ 3 ∧ 0 ≤ (formI k).made ∧ (formI k).made ≤ 3 ∧ 0 ≤ (formI k).a0 ∧ (formI k).a1 ≤ 200 ∧ 0 ≤ (formI k).b0 ∧ (formI k).b1 ≤ 6 := by
 have hall : ∀ f ∈ form0 :: formT, 0 ≤ f.uses ∧ f.uses ≤ 3 ∧ 0 ≤ f.made ∧ f.made ≤ 3 ∧ 0 ≤ f.a0 ∧ f.a1 ≤ 200 ∧ 0 ≤ f.b0 ∧ f.b1 ≤ 6 := by
  intro f hf
  simp only [formT, form0, List.mem_cons, List.not_mem_nil, or_false] at hf
  rcases hf with rfl | rfl | rfl | rfl | rfl | rfl | rfl | rfl | rfl | rfl | rfl <;> decide
 unfold formI
 split
 · rw [List.getD]
   cases h : formT[(k - 1).toNat]? with
   | none => exact hall _ List.mem_cons_self
   | some f => exact hall f (List.mem_cons_of_mem _ (List.mem_of_getElem? h))
 · exact hall _ List.mem_cons_self
theorem ok_rng {s : Stc} (h : s.ok = true) : (0 ≤ s.a ∧ s.a ≤ 200) ∧ (0 ≤ s.b ∧ s.b ≤ 6) := by
 unfold Stc.ok at h
 simp only [Bool.and_eq_true, decide_eq_true_eq] at h
 have := formI_rng (k := s.kind)
 omega
def usesS (s : Stc) : Int := loopsI s (formI s.kind).uses
def makesS (s : Stc) : Int := loopsI s (formI s.kind).made
theorem loopsI_rng {s : Stc} (h : s.ok = true) (how : Int) : 0 ≤ loopsI s how ∧ loopsI s how ≤ 206 := by
 obtain ⟨⟨a1, a2⟩, b1, b2⟩ := ok_rng h
 unfold loopsI
 repeat' split
 all_goals omega
def sumU (l : List Stc) : Int := (l.map usesS).sum
def sumM (l : List Stc) : Int := (l.map makesS).sum
theorem sum_take {f : Stc → Int} {l : List Stc} {k : Nat} {s : Stc} (h : l[k]? = some s) : ((l.take (k + 1)).map f).sum = ((l.take k).map f).sum + f s := by
 obtain ⟨hk, e⟩ := List.getElem?_eq_some_iff.1 h
 rw [List.take_succ_eq_append_getElem hk, e, List.map_append, List.sum_append]
 simp
theorem sum_rng {f : Stc → Int} : ∀ {l : List Stc}, (∀ s ∈ l, 0 ≤ f s ∧ f s ≤ 206) → 0 ≤ (l.map f).sum ∧ (l.map f).sum ≤ 206 * l.length
 | [], _ => by simp
 | s :: l, h => by
   have h1 := h s List.mem_cons_self
   have h2 := sum_rng (l := l) fun x hx => h x (List.mem_cons_of_mem _ hx)
   simp only [List.map_cons, List.sum_cons, List.length_cons]
   omega
set_option maxHeartbeats 2000000 in
theorem sum_any (A : Option Addr) (c : Nat) (l : List Stc) (hw : ∀ s ∈ l, s.wf) (hok : ∀ s ∈ l, s.ok = true) (hn : l.length ≤ 1000000) (w : World) (hs : SlT w w.heap.size A l) :
 Calls Tryz.prog 85 #[.slice A l.length c] w fun e w' => e = .returned (.tuple #[.int .i64 (sumU l), .int .i64 (sumM l)]) ∧ Below w.heap.size w w' := by
 go_enter Tryz.func85, Tryz.ntmps85
 go_wp2
 go_loopw [2, 3, 10] (fun s2 s3 s10 wr => ∃ (k : Nat) (u m : Int), k ≤ l.length ∧ s10 = .int .i64 k ∧ s2 = .int .i64 u ∧ s3 = .int .i64 m ∧ Hid (u = ((l.take k).map usesS).sum) ∧ Hid (m = ((l.take k).map makesS).sum) ∧ Below w.heap.size w wr) (fun _ _ s10 _ => l.length - (intOf s10).toNat)
 case atStart => exact ⟨0, 0, 0, Nat.zero_le _, rfl, rfl, rfl, rfl, rfl, Below.refl _ _⟩
 case round =>
  obtain ⟨k, u, m, hk, rfl, rfl, rfl, HU, HM, hbw⟩ := hrel
  by_cases hlt : k < l.length
  · obtain ⟨b, off, s, rfl, hB, hz, hc⟩ := hs.at_ hlt
    have hmem := List.mem_of_getElem? hz
    have hsok := hok s hmem
    have hswf := hw s hmem
    obtain ⟨c0, c1, c2, c3⟩ := hc.below hbw hB
    have HU2 : Hid (u + usesS s = ((l.take (k + 1)).map usesS).sum) := by unfold Hid; rw [sum_take hz, ← HU.out]
    have HM2 : Hid (m + makesS s = ((l.take (k + 1)).map makesS).sum) := by unfold Hid; rw [sum_take hz, ← HM.out]
    have hru := sum_rng (f := usesS) (l := l.take k) fun x hx => loopsI_rng (hok x (List.mem_of_mem_take hx)) _
    have hrm := sum_rng (f := makesS) (l := l.take k) fun x hx => loopsI_rng (hok x (List.mem_of_mem_take hx)) _
    rw [← HU.out, List.length_take] at hru
    rw [← HM.out, List.length_take] at hrm
    have hsu : 0 ≤ usesS s ∧ usesS s ≤ 206 := loopsI_rng hsok _
    have hsm : 0 ≤ makesS s ∧ makesS s ≤ 206 := loopsI_rng hsok _
    have hwu : IntKind.i64.wrap (u + usesS s) = u + usesS s := IntWalk.i64_in _ (by omega)
    have hwm : IntKind.i64.wrap (m + makesS s) = m + makesS s := IntWalk.i64_in _ (by omega)
    have hrf := formI_rng (k := s.kind)
    have HF := forms_any s.kind hswf
    have HLu := Lib.hid (fun w => loops_any s (formI s.kind).uses ⟨hrf.1, hrf.2.1⟩ ⟨(ok_rng hsok).1.1, by have := (ok_rng hsok).1; omega⟩ ⟨(ok_rng hsok).2.1, by have := (ok_rng hsok).2; omega⟩ w)
    have HLm := Lib.hid (fun w => loops_any s (formI s.kind).made ⟨hrf.2.2.1, hrf.2.2.2.1⟩ ⟨(ok_rng hsok).1.1, by have := (ok_rng hsok).1; omega⟩ ⟨(ok_rng hsok).2.1, by have := (ok_rng hsok).2; omega⟩ w)
    change Hid (∀ w, Calls _ _ _ _ fun e w' => RetE (usesS s) w e w') at HLu
    change Hid (∀ w, Calls _ _ _ _ fun e w' => RetE (makesS s) w e w') at HLm
    generalize usesS s = us at HU2 hwu HLu hsu
    generalize makesS s = ms at HM2 hwm HLm hsm
    generalize decide (1 ≤ s.kind ∧ s.kind ≤ 10) = qk at HF
    generalize formI s.kind = f at HF HLu HLm hrf
    have HF2 := Lib.hid (show ∀ w, Calls Tryz.prog 111 #[.int .u8 s.kind] w fun e w' => e = .returned (.tuple #[.agg #[.string f.letter, .int .i64 f.a0, .int .i64 f.a1, .int .i64 f.b0, .int .i64 f.b1, .bool f.sided, .int .i64 f.uses, .int .i64 f.made], .bool qk]) ∧ Below w.heap.size w w' from HF)
    have HRg := Lib.hid (show _ ∧ _ from ⟨hru, hrm⟩)
    clear hz hs hc hw hok HF HU HM hsok hswf hru hrm hsu hsm hrf
    go_upto_region 5 with (go_at_call 111; refine (HF2.out _).mono ?_; rintro e w1 ⟨rfl, hb1⟩)
    refine abs_world (Q := fun W => Code.wp _ _ _ _ W) (F := fun W => Below w.heap.size w W ∧ StcAt W wr.heap.size 0 s ∧ FormAt W w1.heap.size 0 f) _ ?_ ?_
    · have hs1 : StcAt w1 wr.heap.size 0 s := by
       have h0 : StcAt (wr.alloc (.cells #[.int .u8 s.kind, .bool s.purl, .int .i64 s.a, .int .i64 s.b] 96)) wr.heap.size 0 s := ⟨cell_new rfl rfl rfl, cell_new rfl rfl rfl, cell_new rfl rfl rfl, cell_new rfl rfl rfl⟩
       exact h0.below (B := wr.heap.size + 1) (hb1.mono (by simp)) (by omega)
      have hsz : wr.heap.size + 1 ≤ w1.heap.size := by have := hb1.size; simpa using this
      have hbz := hbw.size
      have hbw1 : Below w.heap.size w w1 := (hbw.alloc hbw.size _).trans (hb1.mono (by simp; omega))
      refine ⟨hbw1.alloc (by omega) _, hs1.below (B := w1.heap.size) ((Below.refl _ _).alloc (Nat.le_refl _) _) (by omega), ?_⟩
      exact ⟨cell_new rfl rfl rfl, cell_new rfl rfl rfl, cell_new rfl rfl rfl, cell_new rfl rfl rfl, cell_new rfl rfl rfl, cell_new rfl rfl rfl, cell_new rfl rfl rfl, cell_new rfl rfl rfl⟩
    rintro W ⟨hbW, hS, hFm⟩
    have HK := Lib.hid (fun w2 (hb : Below W.heap.size W w2) => (⟨hS.below hb hS.lt, hFm.below hb hFm.lt⟩ : StcAt w2 wr.heap.size 0 s ∧ FormAt w2 w1.heap.size 0 f))
    obtain ⟨s0, s1, s2, s3⟩ := hS
    obtain ⟨f0, f1, f2, f3, f4, f5, f6, f7⟩ := hFm
    simp only [Nat.zero_add] at s1 s2 s3 f1 f2 f3 f4 f5 f6 f7
    have HB := Lib.hid hbW
    clear hbW HF2 hb1 hbw c0 c1 c2 c3
    go_wp2_with (first
     | (go_at_call_of 112 (Value.int .i64 f.uses); refine (HLu.out _).mono ?_; rintro e w2 ⟨rfl, hb2⟩
        obtain ⟨⟨t0, t1, t2, t3⟩, g0, g1, g2, g3, g4, g5, g6, g7⟩ := HK.out _ hb2
        simp only [Nat.zero_add] at t1 t2 t3 g1 g2 g3 g4 g5 g6 g7)
     | (go_at_call_of 112 (Value.int .i64 f.made); refine (HLm.out _).mono ?_; rintro e w3 ⟨rfl, hb3⟩))
    go_roundw
    case rel => exact ⟨k + 1, _, _, by omega, by go_num, rfl, rfl, HU2, HM2, HB.out.trans ((hb2.trans (hb3.mono hb2.size)).mono HB.out.size)⟩
    case measure => simp [intOf]; omega
  · obtain rfl : k = l.length := by omega
    have HU2 : Hid (u = sumU l) := by have := HU.out; rwa [List.take_length] at this
    have HM2 : Hid (m = sumM l) := by have := HM.out; rwa [List.take_length] at this
    clear hs hw hok HU HM
    go_wp2
    go_ret2
    exact ⟨by rw [← HU2.out, ← HM2.out]; rfl, hbw⟩
def allE (l : List Stc) : Int := if 200 < l.length then 4 else if l.any (fun s => decide (s.err ≠ 0)) then 8 else if 200 < sumU l ∨ 200 < sumM l then 4 else 0
theorem all1_any (s : Stc) (hs : s.wf) (w : World) : Calls Tryz.prog 109 #[s.val] w fun e w' => e = .returned (.bool (decide (s.err ≠ 0))) ∧ Below w.heap.size w w' := by
 have HC := Lib.hid (fun w => scheck_any s hs w)
 have hb := Lib.hid (fun o => (Below.refl w.heap.size w).alloc (Nat.le_refl _) o)
 by_cases he : s.err = 0
 · have HR : Hid (decide (s.err ≠ 0) = false) := by simp [Hid, he]
   rw [he] at HC
   clear he
   go_enter Tryz.func109, Tryz.ntmps109
   go_wp2_with (go_at_call 110; refine (HC.out _).mono ?_; rintro e w1 ⟨rfl, hb1⟩)
   go_ret
   exact ⟨ret_bool HR.out.symm, (hb.out _).trans (hb1.mono (by simp))⟩
 · have HR : Hid (decide (s.err ≠ 0) = true) := by simp [Hid, he]
   have hbn : (s.err != 0) = true := by simp [he]
   have hbn2 : (s.err == 0) = false := by simp [he]
   clear he
   go_enter Tryz.func109, Tryz.ntmps109
   go_wp2_with (go_at_call 110; refine (HC.out _).mono ?_; rintro e w1 ⟨rfl, hb1⟩)
   go_ret
   exact ⟨ret_bool HR.out.symm, (hb.out _).trans (hb1.mono (by simp))⟩
theorem err_ok {s : Stc} (h : ¬ s.err ≠ 0) : s.ok = true := by
 unfold Stc.err at h
 cases hk : s.ok with
 | true => rfl
 | false => rw [hk] at h; simp at h
set_option maxHeartbeats 1000000 in
theorem all_any (A : Option Addr) (c : Nat) (l : List Stc) (hw : ∀ s ∈ l, s.wf) (w : World) (hs : SlT w w.heap.size A l) :
 Calls Tryz.prog 84 #[.slice A l.length c] w fun e w' => RetE (allE l) w e w' := by
 by_cases h1 : 200 < l.length
 · have HE : Hid (allE l = 4) := by unfold Hid allE; rw [if_pos h1]
   clear hs hw
   go_enter Tryz.func84, Tryz.ntmps84
   go_wp2
   go_ret
   exact RetE.mk' HE.out (Below.refl _ _)
 have hcall := Lib.hid (contT_any 109 #[] (enters_of Tryz.func109 (by kernel_rfl) rfl) (fun i => decide (i.err ≠ 0)) A c l w hs (by omega) (fun x hx w' _ => all1_any x (hw x hx) w'))
 cases hb : l.any (fun i => decide (i.err ≠ 0)) with
 | true =>
   have HE : Hid (allE l = 8) := by unfold Hid allE; rw [if_neg h1, hb, if_pos rfl]
   rw [hb] at hcall
   clear hs hw hb
   go_enter Tryz.func84, Tryz.ntmps84
   go_wp2_with (go_at_call 96; refine hcall.out.mono ?_; rintro e w' ⟨rfl, hb1⟩)
   go_ret
   exact RetE.mk' HE.out hb1
 | false =>
   have HE : Hid (allE l = if 200 < sumU l ∨ 200 < sumM l then 4 else 0) := by unfold Hid allE; rw [if_neg h1, hb, if_neg (by simp)]
   have hok : ∀ s ∈ l, s.ok = true := fun s hs => by
    rw [List.any_eq_false] at hb
    exact err_ok (by simpa using hb s hs)
   have HSm := Lib.hid (fun w' (hb : Below w.heap.size w w') => sum_any A c l hw hok (by omega) w' ((hs.below hb).more hb.size))
   rw [hb] at hcall
   clear hs hw hb hok
   generalize sumU l = u at HE HSm
   generalize sumM l = m at HE HSm
   by_cases h2 : 200 < u ∨ 200 < m
   · have HE2 : Hid (allE l = 4) := by unfold Hid; rw [HE.out, if_pos h2]
     have h3 : decide (200 < max u m) = true := decide_eq_true (by omega)
     clear HE
     go_enter Tryz.func84, Tryz.ntmps84
     go_wp2_with (first
      | (go_at_call 96; refine hcall.out.mono ?_; rintro e w' ⟨rfl, hb1⟩)
      | (go_at_call 85; refine (HSm.out _ hb1).mono ?_; rintro e w2 ⟨rfl, hb2⟩))
     all_goals go_ret
     all_goals exact RetE.mk' HE2.out (hb1.trans (hb2.mono hb1.size))
   · have HE2 : Hid (allE l = 0) := by unfold Hid; rw [HE.out, if_neg h2]
     have h3 : decide (200 < max u m) = false := decide_eq_false (by omega)
     have h4 : u ≤ 200 := by omega
     have h5 : m ≤ 200 := by omega
     clear HE h2
     go_enter Tryz.func84, Tryz.ntmps84
     go_wp2_with (first
      | (go_at_call 96; refine hcall.out.mono ?_; rintro e w' ⟨rfl, hb1⟩)
      | (go_at_call 85; refine (HSm.out _ hb1).mono ?_; rintro e w2 ⟨rfl, hb2⟩))
     all_goals go_ret
     all_goals exact RetE.mk' HE2.out (hb1.trans (hb2.mono hb1.size))
theorem all_zero {l : List Stc} (h : allE l = 0) : l.length ≤ 200 ∧ (∀ s ∈ l, s.ok = true) ∧ sumU l ≤ 200 ∧ sumM l ≤ 200 := by
 unfold allE at h
 by_cases h1 : 200 < l.length
 · rw [if_pos h1] at h; cases h
 rw [if_neg h1] at h
 cases hb : l.any (fun i => decide (i.err ≠ 0)) with
 | true => rw [hb, if_pos rfl] at h; cases h
 | false =>
   rw [hb, if_neg (by simp)] at h
   by_cases h2 : 200 < sumU l ∨ 200 < sumM l
   · rw [if_pos h2] at h; cases h
   · refine ⟨by omega, fun s hs => ?_, by omega, by omega⟩
     rw [List.any_eq_false] at hb
     exact err_ok (by simpa using hb s hs)
def usesE (l : List Stc) : Int := if allE l = 0 then sumU l else 0
def makesE (l : List Stc) : Int := if allE l = 0 then sumM l else 0
set_option maxHeartbeats 1000000 in
theorem uses_any (A : Option Addr) (c : Nat) (l : List Stc) (hw : ∀ s ∈ l, s.wf) (w : World) (hs : SlT w w.heap.size A l) :
 Calls Tryz.prog 39 #[.slice A l.length c] w fun e w' => e = .returned (.tuple #[.int .i64 (usesE l), .int .i64 (allE l)]) ∧ Below w.heap.size w w' := by
 have HA := Lib.hid (all_any A c l hw w hs)
 by_cases he : allE l = 0
 · have hz := all_zero he
   have HU : Hid (usesE l = sumU l) := by unfold Hid usesE; rw [if_pos he]
   have HSm := Lib.hid (fun w' (hb : Below w.heap.size w w') => sum_any A c l hw hz.2.1 (by omega) w' ((hs.below hb).more hb.size))
   rw [he] at HA ⊢
   clear hs hw hz he
   go_enter Tryz.func39, Tryz.ntmps39
   go_wp2_with (first
    | (go_at_call 84; refine HA.out.mono ?_; rintro e w' ⟨rfl, hb1⟩)
    | (go_at_call 85; refine (HSm.out _ hb1).mono ?_; rintro e w2 ⟨rfl, hb2⟩))
   go_ret2
   exact ⟨by rw [HU.out]; rfl, hb1.trans (hb2.mono hb1.size)⟩
 · have HU : Hid (usesE l = 0) := by unfold Hid usesE; rw [if_neg he]
   have hb : (allE l == 0) = false := beq_eq_false_iff_ne.2 he
   generalize allE l = x at HA hb ⊢
   clear hs hw he
   go_enter Tryz.func39, Tryz.ntmps39
   go_wp2_with (go_at_call 84; refine HA.out.mono ?_; rintro e w' ⟨rfl, hb1⟩)
   go_ret2
   exact ⟨by rw [HU.out]; rfl, hb1⟩
set_option maxHeartbeats 1000000 in
theorem makes_any (A : Option Addr) (c : Nat) (l : List Stc) (hw : ∀ s ∈ l, s.wf) (w : World) (hs : SlT w w.heap.size A l) :
 Calls Tryz.prog 139 #[.slice A l.length c] w fun e w' => e = .returned (.tuple #[.int .i64 (makesE l), .int .i64 (allE l)]) ∧ Below w.heap.size w w' := by
 have HA := Lib.hid (all_any A c l hw w hs)
 by_cases he : allE l = 0
 · have hz := all_zero he
   have HU : Hid (makesE l = sumM l) := by unfold Hid makesE; rw [if_pos he]
   have HSm := Lib.hid (fun w' (hb : Below w.heap.size w w') => sum_any A c l hw hz.2.1 (by omega) w' ((hs.below hb).more hb.size))
   rw [he] at HA ⊢
   clear hs hw hz he
   go_enter Tryz.func139, Tryz.ntmps139
   go_wp2_with (first
    | (go_at_call 84; refine HA.out.mono ?_; rintro e w' ⟨rfl, hb1⟩)
    | (go_at_call 85; refine (HSm.out _ hb1).mono ?_; rintro e w2 ⟨rfl, hb2⟩))
   go_ret2
   exact ⟨by rw [HU.out]; rfl, hb1.trans (hb2.mono hb1.size)⟩
 · have HU : Hid (makesE l = 0) := by unfold Hid makesE; rw [if_neg he]
   have hb : (allE l == 0) = false := beq_eq_false_iff_ne.2 he
   generalize allE l = x at HA hb ⊢
   clear hs hw he
   go_enter Tryz.func139, Tryz.ntmps139
   go_wp2_with (go_at_call 84; refine HA.out.mono ?_; rintro e w' ⟨rfl, hb1⟩)
   go_ret2
   exact ⟨by rw [HU.out]; rfl, hb1⟩
end Go.Proofs.YtflpikickbellaaGreat
