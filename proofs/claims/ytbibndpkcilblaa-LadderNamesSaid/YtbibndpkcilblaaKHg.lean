/- Layer 28, the program: what hangs on a loop. -/
import Derived.Test.YtbibndpkcilblaaKG22
import Derived.Test.YtbibndpkcilblaaKLd3
namespace Go.Proofs.Ytbibndpkcilblaa
open Go.RowKit Go.Shelf Go.Sort
set_option maxRecDepth 100000

def cntS (M : Nat) (S : Nat → Bool) : Nat := ((List.range M).filter S).length
theorem cntS_le (M : Nat) (S : Nat → Bool) : cntS M S ≤ M := by
  unfold cntS
  exact Nat.le_trans (List.length_filter_le _ _) (by rw [List.length_range]; exact Nat.le_refl _)
theorem cntS_put : ∀ {M : Nat} {S : Nat → Bool} {i : Nat}, i < M → S i = false → cntS M (fun j => S j || decide (j = i)) = cntS M S + 1
  | 0, _, _, h, _ => absurd h (Nat.not_lt_zero _)
  | M + 1, S, i, h, hs => by
    unfold cntS
    rw [List.range_succ, List.filter_append, List.filter_append, List.length_append, List.length_append]
    by_cases e : i = M
    · subst e
      have h1 : (List.range i).filter (fun j => S j || decide (j = i)) = (List.range i).filter S := List.filter_congr fun j hj => by
        have := List.mem_range.1 hj
        rw [decide_eq_false (by omega), Bool.or_false]
      rw [h1]
      simp [hs]
    · have h1 := cntS_put (M := M) (S := S) (i := i) (by omega) hs
      unfold cntS at h1
      rw [h1]
      have h2 : (S M || decide (M = i)) = S M := by rw [decide_eq_false (by omega), Bool.or_false]
      simp only [List.filter_cons, List.filter_nil, h2]
      omega
/-- A visit's state: the marks, in the map. -/
structure VsA (B mb ob qb vb : Nat) (vals : List Value) (M : Nat) (S : Nat → Bool) (n : Nat) (W : World) : Prop where
  rn : RnA B mb n (gO S) [bxT 102 vb [.func (.func 64) #[] #[.pointer (some ⟨ob, 0, none⟩), .pointer (some ⟨qb, 0, none⟩), .pointer (some ⟨vb, 0, none⟩)]], bxT 71 ob [.map (some mb)], bxT 63 qb vals] W
  hi : ∀ q, M ≤ q → S q = false
  cn : n ≤ cntS M S
theorem VsA.box {B mb ob qb vb M n : Nat} {vals : List Value} {S : Nat → Bool} {W : World} (h : VsA B mb ob qb vb vals M S n W) : W.cell? ⟨vb, 0, none⟩ = some (.func (.func 64) #[] #[.pointer (some ⟨ob, 0, none⟩), .pointer (some ⟨qb, 0, none⟩), .pointer (some ⟨vb, 0, none⟩)]) ∧ W.cell? ⟨ob, 0, none⟩ = some (.map (some mb)) ∧ ∀ k v, vals[k]? = some v → W.cell? ⟨qb, k, none⟩ = some v := by
  obtain ⟨y1, -⟩ := bxT_at (h.rn.own.all _ (List.mem_cons_self))
  obtain ⟨y2, -⟩ := bxT_at (h.rn.own.all _ (List.mem_cons_of_mem _ List.mem_cons_self))
  obtain ⟨y3, -⟩ := bxT_at (h.rn.own.all _ (List.mem_cons_of_mem _ (List.mem_cons_of_mem _ List.mem_cons_self)))
  exact ⟨y1 0 _ rfl, y2 0 _ rfl, y3⟩
def VsPost (L : List Lp) (B mb ob qb vb : Nat) (vals : List Value) (i : Nat) (S : Nat → Bool) (w : World) (e : Ending) (w' : World) : Prop := e = .returned (.tuple #[]) ∧ ∃ S' n', Visited L i S S' ∧ VsA B mb ob qb vb vals L.length S' n' w' ∧ Below B w w'
set_option maxHeartbeats 8000000 in
theorem pvisit_any (L : List Lp) (bound : List Int) (K lv : Nat) (hG : GrN L bound K lv) (hM : L.length ≤ 2600) (w : World) (a k b : Option Addr) (c kc nb bc : Nat) (live : Int) (bd : List Int) (hp : PcAt w w.heap.size a k b L (kidsA L) bd) (mb ob qb vb : Nat) :
    ∀ (d i : Nat), i < L.length → L.length - i ≤ d → ∀ (S : Nat → Bool) (n : Nat) (W : World), WholeFrom L i S → VsA w.heap.size mb ob qb vb (lqV a k b L.length c kc nb bc live) L.length S n W → Below w.heap.size w W →
    Calls Try.prog 64 #[.int .i64 (i : Int), .pointer (some ⟨ob, 0, none⟩), .pointer (some ⟨qb, 0, none⟩), .pointer (some ⟨vb, 0, none⟩)] W fun e w' => VsPost L w.heap.size mb ob qb vb (lqV a k b L.length c kc nb bc live) i S W e w' := by
  intro d
  induction d with
  | zero => intro i hi hd; omega
  | succ d ih =>
    intro i hi hd S n W hwf hV hbW
    have HIh := Lib.hid ih
    have HDd : Hid (L.length - i ≤ d + 1) := hd
    have HG := Lib.hid hG
    have HV := Lib.hid hV
    have HW := Lib.hid hwf
    have HB := Lib.hid hbW
    have HPc : Hid (∀ W, Below w.heap.size w W → PcAt W w.heap.size a k b L (kidsA L) bd) := fun W hb => hp.below hb
    obtain ⟨M, hMe⟩ : ∃ M, M = L.length := ⟨_, rfl⟩
    have HMe := Lib.hid hMe
    obtain ⟨y0, y1, y2⟩ := hV.box
    have yk := y2 1 _ rfl
    rw [← hMe] at yk
    have hlk := hV.rn.look (wfN (i := i) (by omega))
    rw [gO_at] at hlk
    obtain ⟨z, hz⟩ : ∃ z, z = S i := ⟨_, rfl⟩
    rw [← hz] at hlk
    have HZ := Lib.hid hz
    have hiM : i < M := by omega
    have hiI : (i : Int) < (M : Int) := by omega
    have hi0 : (0 : Int) ≤ (i : Int) := by omega
    have hM26 : M ≤ 2600 := by omega
    cases z with
    | true =>
      have HQ : Hid (VsPost L w.heap.size mb ob qb vb (lqV a k b L.length c kc nb bc live) i S W (.returned (.tuple #[])) W) := ⟨rfl, S, n, visit_seen hwf hz.symm, hV, Below.refl _ _⟩
      clear ih hG hV hwf hbW hp hMe y2 hz hd hi hM
      go_enter Try.func64, Try.ntmps64
      go_wp2
      refine bodyPost_end (results_none rfl _ _ _) rfl ?_
      exact HQ.out
    | false =>
      obtain ⟨w1, hput, h1, hb1⟩ := hV.rn.put hbW.size (by have := hV.cn; have := cntS_le L.length S; unfold maxLen; omega) (wfN (i := i) (by omega)) (.bool true)
      have hV1 : VsA w.heap.size mb ob qb vb (lqV a k b L.length c kc nb bc live) L.length (fun j => S j || decide (j = i)) (n + 1) w1 := by
        refine ⟨h1.ext (gO_put S i), fun q hq => ?_, ?_⟩
        · rw [hV.hi q hq, decide_eq_false (by omega)]; rfl
        · rw [cntS_put hi hz.symm]
          have := hV.cn
          omega
      have HX : Hid (VsA w.heap.size mb ob qb vb (lqV a k b L.length c kc nb bc live) L.length (fun j => S j || decide (j = i)) (n + 1) w1 ∧ Below w.heap.size W w1) := ⟨hV1, hb1⟩
      have HK0 : Hid (VisitK L i S 0 (fun j => S j || decide (j = i))) := visitK_start
      clear ih hG hV hwf hp hMe y2 hz hV1 h1 hd hM
      go_enter Try.func64, Try.ntmps64
      go_upto_region 2 with fail
      refine abs_world (Q := fun W => Code.wp _ _ _ _ W) (F := fun W1 => VsA w.heap.size mb ob qb vb (lqV a k b L.length c kc nb bc live) L.length (fun j => S j || decide (j = i)) (n + 1) W1 ∧ Below w.heap.size W W1) _ HX.out ?_
      clear HX hput hb1 y0 y1 yk hlk
      clear w1
      rintro W1 ⟨h1, hb1⟩
      obtain ⟨-, -, y2⟩ := h1.box
      have yk := y2 1 _ rfl
      rw [← HMe.out] at yk
      obtain ⟨kb, koff, row, A2, C2, ek, -, hrr, k0, hks⟩ := (HPc.out W1 (HB.out.trans hb1)).kd.at_ (k := i) (by rw [kidsA_len]; exact hi)
      rw [kidsA_at hi] at hrr
      cases hrr
      subst ek
      have hKl : ((kidsN L i).map fun q : Nat => (q : Int)).length = (kidsN L i).length := List.length_map _
      rw [hKl] at k0
      obtain ⟨KL, hKL⟩ : ∃ KL, KL = (kidsN L i).length := ⟨_, rfl⟩
      have HKl := Lib.hid hKL
      rw [← hKL] at k0
      have hKL26 : KL ≤ 2600 := by
        rw [hKL]
        unfold kidsN
        exact Nat.le_trans (List.length_filter_le _ _) (by rw [List.length_range]; have := HMe.out; omega)
      have HX := Lib.hid (And.intro h1 hb1)
      have HSl : Hid (∀ W', Below w.heap.size W1 W' → SlI W' w.heap.size A2 ((kidsN L i).map fun q : Nat => (q : Int))) := fun W' hb => hks.below hb
      have HB1 := Lib.hid (Below.refl w.heap.size W1)
      clear h1 y2 hKl hks hKL hb1
      go_wp2
      go_loopw [6, 18] (fun s6 s18 wr => ∃ (m : Nat) (S' : Nat → Bool) (n' : Nat) (v6 : Value), m ≤ KL ∧ s18 = .int .i64 (m : Int) ∧ v6 = s6 ∧ Hid (VisitK L i S m S') ∧ Hid (VsA w.heap.size mb ob qb vb (lqV a (some ⟨kb, koff, none⟩) b L.length c kc nb bc live) L.length S' n' wr) ∧ Hid (Below w.heap.size W1 wr)) (fun _ s18 _ => KL - (intOf s18).toNat)
      case atStart => exact ⟨0, _, _, _, Nat.zero_le _, rfl, rfl, HK0.out, HX.out.1, HB1.out⟩
      case round =>
        obtain ⟨m, S', n', v6, hm, rfl, rfl, HK, HV2, HB2⟩ := hrel
        clear yk k0
        have HBW : Hid (Below w.heap.size W W1) := HX.out.2
        clear HX HB1
        obtain ⟨W2, hW2⟩ : ∃ x : World, x = wr := ⟨_, rfl⟩
        rw [← hW2] at HV2 HB2 ⊢
        clear hW2
        by_cases hlt : m < KL
        case neg =>
          have d1 : decide ((m : Int) < (KL : Int)) = false := decide_eq_false (by omega)
          have d1' : decide (m < KL) = false := decide_eq_false hlt
          have hmk : m = (kidsN L i).length := by have := HKl.out; omega
          have hK := HK.out
          rw [hmk] at hK
          have HQ : Hid (VsPost L w.heap.size mb ob qb vb (lqV a (some ⟨kb, koff, none⟩) b L.length c kc nb bc live) i S W (.returned (.tuple #[])) W2) := ⟨rfl, S', n', visitK_end hi hK, HV2.out, HBW.out.trans HB2.out⟩
          clear hK hmk HV2 HK HB2 HBW
          go_wp2
          refine bodyPost_end (results_none rfl _ _ _) rfl ?_
          exact HQ.out
        case pos =>
          have d1 : decide ((m : Int) < (KL : Int)) = true := decide_eq_true (by omega)
          have d1' : decide (m < KL) = true := decide_eq_true hlt
          obtain ⟨pg, poff, xk, ev, -, hx, x0⟩ := (HSl.out W2 HB2.out).at_ (k := m) (by rw [List.length_map]; have := HKl.out; omega)
          subst ev
          rw [List.getElem?_map] at hx
          cases hkq : (kidsN L i)[m]? with
          | none => rw [hkq] at hx; cases hx
          | some q =>
          rw [hkq] at hx
          simp only [Option.map_some, Option.some.injEq] at hx
          subst hx
          have hqm := List.mem_of_getElem? hkq
          have hqL := (mem_kids.1 hqm).1
          have hqi := kids_gt HG.out.fwd hqm
          have hWf := visitK_whole HG.out HW.out HK.out hqm
          have HC := Lib.hid (HIh.out q hqL (by have := HDd.out; omega) S' n' W2 hWf HV2.out (HB.out.trans (HBW.out.trans HB2.out)))
          obtain ⟨y0, -, -⟩ := HV2.out.box
          have Hq := Lib.hid hkq
          have HJ : Hid (m + 1 ≤ KL ∧ m < KL) := by show _ ∧ _; omega
          have hmI : (m : Int) < (KL : Int) := by omega
          have hm0 : (0 : Int) ≤ (m : Int) := by omega
          clear hkq hqm hWf HV2
          go_wp2_with fail
          refine HC.out.mono ?_
          rintro e w3 ⟨rfl, S2, n2, hv2, hV3, hb3⟩
          have HQ := Lib.hid (And.intro (visitK_next HK.out Hq.out hv2) (And.intro hV3 (HB2.out.trans hb3)))
          clear hv2 hV3 hb3 HK HC
          go_wp2
          go_roundw
          case rel => exact ⟨m + 1, S2, n2, _, HJ.out.1, by go_num, rfl, HQ.out.1, HQ.out.2.1, HQ.out.2.2⟩
          case measure => simp [intOf]; have := HJ.out; omega
end Go.Proofs.Ytbibndpkcilblaa
