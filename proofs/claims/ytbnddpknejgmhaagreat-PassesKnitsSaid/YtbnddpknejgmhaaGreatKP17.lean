/- Layer 25: lists of stitches: ContainsFunc, sum, All, Uses, Makes. Layer 25: All, Uses, Makes. Layer 26: charts in memory; the counts. -/
import Derived.Test.YtbnddpknejgmhaaGreatKP16
import Derived.Test.YtbnddpknejgmhaaGreatKP3
namespace Go.Proofs.YtbnddpknejgmhaaGreat
open Go.RowKit
set_option maxRecDepth 100000

/-- Slices of stitches. -/
def SlT (w : World) (B : Nat) (A : Option Addr) (l : List Stc) : Prop := SlS 4 w B A (l.map Stc.cells)
theorem SlT.below {w w' : World} {B : Nat} {A : Option Addr} {l : List Stc} (h : SlT w B A l) (hb : Below B w w') : SlT w' B A l := SlS.below h hb
theorem SlT.more {w : World} {B B' : Nat} {A : Option Addr} {l : List Stc} (h : SlT w B A l) (hB' : B ≤ B') : SlT w B' A l := SlS.more h hB'
theorem SlT.nil {w : World} {B : Nat} {A : Option Addr} : SlT w B A [] := SlS.nil
theorem SlT.at_ {w : World} {B : Nat} {A : Option Addr} {l : List Stc} (h : SlT w B A l) {k : Nat} (hk : k < l.length) :
    ∃ b off i, A = some ⟨b, off, none⟩ ∧ b < B ∧ l[k]? = some i ∧ StcAt w b (off + k * 4) i := by
  obtain ⟨b, off, cs, e, hB, hz, hc⟩ := SlS.at_ h (k := k) (by simpa using hk)
  rw [List.getElem?_map] at hz
  cases hl : l[k]? with
  | none => rw [hl] at hz; cases hz
  | some i =>
    rw [hl] at hz
    simp only [Option.map_some, Option.some.injEq] at hz
    subst hz
    exact ⟨b, off, i, e, hB, rfl, hc 0 _ rfl, hc 1 _ rfl, hc 2 _ rfl, hc 3 _ rfl⟩

set_option maxHeartbeats 1000000 in
theorem idxT_any (g : Nat) (lb : Array Value) (eg : ∀ args w, (callFunc g args).run Tryz.prog w = .ok (.enter g args) w) (pr : Stc → Bool) (A : Option Addr) (c : Nat) (zs : List Stc) (w : World)
    (hs : SlT w w.heap.size A zs) (hn : zs.length ≤ 4611686018427387904) (hp : ∀ x, x ∈ zs → ∀ w', Below w.heap.size w w' → Calls Tryz.prog g (#[x.val] ++ lb) w' fun e w2 => e = .returned (.bool (pr x)) ∧ Below w'.heap.size w' w2) :
    Calls Tryz.prog 79 #[.slice A zs.length c, .func (.func g) #[] lb] w fun e w' => e = .returned (.int .i64 (idxE pr zs)) ∧ Below w.heap.size w w' := by
  go_enter Tryz.func79, Tryz.ntmps79
  go_wp2
  go_loopw [8] (fun i wr => ∃ k : Nat, k ≤ zs.length ∧ i = .int .i64 k ∧ Hid (∀ j y, j < k → zs[j]? = some y → pr y = false) ∧ Below w.heap.size w wr) (fun i _ => zs.length - (intOf i).toNat)
  case atStart => exact ⟨0, Nat.zero_le _, rfl, fun j _ hj => absurd hj (Nat.not_lt_zero j), Below.refl _ _⟩
  case round =>
    obtain ⟨k, hk, rfl, H, hbw⟩ := hrel
    by_cases hlt : k < zs.length
    · obtain ⟨b, off, z, rfl, hB, hr, hc⟩ := hs.at_ hlt
      obtain ⟨c0, c1, c2, c3⟩ := hc.below hbw hB
      have hcall := hp z (List.mem_of_getElem? hr) wr hbw
      have HR : Hid (zs[k]? = some z) := hr
      clear hr hs hp hc
      cases hq : pr z with
      | true =>
        rw [hq] at hcall
        have HQ : Hid (pr z = true) := hq
        clear hq
        go_wp2_with (go_at_fn g; refine hcall.mono ?_; rintro e w' ⟨rfl, hb1⟩)
        go_ret
        exact ⟨ret_int (idxE_hit HR.out HQ.out H.out).symm, hbw.trans (hb1.mono hbw.size)⟩
      | false =>
        rw [hq] at hcall
        have HQ : Hid (pr z = false) := hq
        clear hq
        go_wp2_with (go_at_fn g; refine hcall.mono ?_; rintro e w' ⟨rfl, hb1⟩)
        go_roundw
        case rel =>
          refine ⟨k + 1, by omega, by go_num, fun j y hj hy => ?_, hbw.trans (hb1.mono hbw.size)⟩
          by_cases e : j = k
          · subst e; rw [HR.out] at hy; injection hy with hy; subst hy; exact HQ.out
          · exact H.out j y (by omega) hy
        case measure => simp [intOf]; omega
    · have HE : Hid (idxE pr zs = -1) := idxE_none (fun j y hj => H.out j y (by omega))
      clear H hs hp
      go_wp2
      go_ret
      exact ⟨ret_int HE.out.symm, hbw⟩
theorem contT_any (g : Nat) (lb : Array Value) (eg : ∀ args w, (callFunc g args).run Tryz.prog w = .ok (.enter g args) w) (pr : Stc → Bool) (A : Option Addr) (c : Nat) (zs : List Stc) (w : World)
    (hs : SlT w w.heap.size A zs) (hn : zs.length ≤ 4611686018427387904) (hp : ∀ x, x ∈ zs → ∀ w', Below w.heap.size w w' → Calls Tryz.prog g (#[x.val] ++ lb) w' fun e w2 => e = .returned (.bool (pr x)) ∧ Below w'.heap.size w' w2) :
    Calls Tryz.prog 47 #[.slice A zs.length c, .func (.func g) #[] lb] w fun e w' => e = .returned (.bool (zs.any pr)) ∧ Below w.heap.size w w' := by
  have HA : Hid (decide (0 ≤ idxE pr zs) = zs.any pr) := idxE_any pr zs
  have hcall := Lib.hid (idxT_any g lb eg pr A c zs w hs hn hp)
  clear hs hp eg
  go_enter Tryz.func47, Tryz.ntmps47
  go_wp2_with (go_at_call 79; refine hcall.out.mono ?_; rintro e w' ⟨rfl, hb1⟩)
  go_ret
  exact ⟨ret_bool (by first | exact HA.out | (rw [← HA.out]; simp)), hb1⟩


theorem formI_rng {k : Int} : 0 ≤ (formI k).uses ∧ (formI k).uses ≤ 3 ∧ 0 ≤ (formI k).made ∧ (formI k).made ≤ 3 ∧ 0 ≤ (formI k).a0 ∧ (formI k).a1 ≤ 200 ∧ 0 ≤ (formI k).b0 ∧ (formI k).b1 ≤ 6 := by
  have hall : ∀ f ∈ form0 :: formT, 0 ≤ f.uses ∧ f.uses ≤ 3 ∧ 0 ≤ f.made ∧ f.made ≤ 3 ∧ 0 ≤ f.a0 ∧ f.a1 ≤ 200 ∧ 0 ≤ f.b0 ∧ f.b1 ≤ 6 := by
    intro f hf
    simp only [formT, form0, List.mem_cons, List.not_mem_nil, or_false] at hf
    rcases hf with rfl | rfl | rfl | rfl | rfl | rfl | rfl | rfl | rfl | rfl | rfl <;> decide
  unfold formI
  split
  · rw [List.getD]
    cases h : formT[(k - 1).toNat]? with
    | none => exact hall _ List.mem_cons_self
    | some f => exact hall f (List.mem_cons_of_mem _ (List.mem_of_getElem? h))
  · exact hall _ List.mem_cons_self
theorem ok_rng {s : Stc} (h : s.ok = true) : (0 ≤ s.a ∧ s.a ≤ 200) ∧ (0 ≤ s.b ∧ s.b ≤ 6) := by
  unfold Stc.ok at h
  simp only [Bool.and_eq_true, decide_eq_true_eq] at h
  have := formI_rng (k := s.kind)
  omega
def usesS (s : Stc) : Int := loopsI s (formI s.kind).uses
def makesS (s : Stc) : Int := loopsI s (formI s.kind).made
theorem loopsI_rng {s : Stc} (h : s.ok = true) (how : Int) : 0 ≤ loopsI s how ∧ loopsI s how ≤ 206 := by
  obtain ⟨⟨a1, a2⟩, b1, b2⟩ := ok_rng h
  unfold loopsI
  repeat' split
  all_goals omega
def sumU (l : List Stc) : Int := (l.map usesS).sum
def sumM (l : List Stc) : Int := (l.map makesS).sum
theorem sum_take {f : Stc → Int} {l : List Stc} {k : Nat} {s : Stc} (h : l[k]? = some s) : ((l.take (k + 1)).map f).sum = ((l.take k).map f).sum + f s := by
  obtain ⟨hk, e⟩ := List.getElem?_eq_some_iff.1 h
  rw [List.take_succ_eq_append_getElem hk, e, List.map_append, List.sum_append]
  simp
theorem sum_rng {f : Stc → Int} : ∀ {l : List Stc}, (∀ s ∈ l, 0 ≤ f s ∧ f s ≤ 206) → 0 ≤ (l.map f).sum ∧ (l.map f).sum ≤ 206 * l.length
  | [], _ => by simp
  | s :: l, h => by
    have h1 := h s List.mem_cons_self
    have h2 := sum_rng (l := l) fun x hx => h x (List.mem_cons_of_mem _ hx)
    simp only [List.map_cons, List.sum_cons, List.length_cons]
    omega

set_option maxHeartbeats 2000000 in
theorem sum_any (A : Option Addr) (c : Nat) (l : List Stc) (hw : ∀ s ∈ l, s.wf) (hok : ∀ s ∈ l, s.ok = true) (hn : l.length ≤ 1000000) (w : World) (hs : SlT w w.heap.size A l) :
    Calls Tryz.prog 105 #[.slice A l.length c] w fun e w' => e = .returned (.tuple #[.int .i64 (sumU l), .int .i64 (sumM l)]) ∧ Below w.heap.size w w' := by
  go_enter Tryz.func105, Tryz.ntmps105
  go_wp2
  go_loopw [2, 3, 10] (fun s2 s3 s10 wr => ∃ (k : Nat) (u m : Int), k ≤ l.length ∧ s10 = .int .i64 k ∧ s2 = .int .i64 u ∧ s3 = .int .i64 m ∧ Hid (u = ((l.take k).map usesS).sum) ∧ Hid (m = ((l.take k).map makesS).sum) ∧ Below w.heap.size w wr) (fun _ _ s10 _ => l.length - (intOf s10).toNat)
  case atStart => exact ⟨0, 0, 0, Nat.zero_le _, rfl, rfl, rfl, rfl, rfl, Below.refl _ _⟩
  case round =>
    obtain ⟨k, u, m, hk, rfl, rfl, rfl, HU, HM, hbw⟩ := hrel
    by_cases hlt : k < l.length
    · obtain ⟨b, off, s, rfl, hB, hz, hc⟩ := hs.at_ hlt
      have hmem := List.mem_of_getElem? hz
      have hsok := hok s hmem
      have hswf := hw s hmem
      obtain ⟨c0, c1, c2, c3⟩ := hc.below hbw hB
      have HU2 : Hid (u + usesS s = ((l.take (k + 1)).map usesS).sum) := by unfold Hid; rw [sum_take hz, ← HU.out]
      have HM2 : Hid (m + makesS s = ((l.take (k + 1)).map makesS).sum) := by unfold Hid; rw [sum_take hz, ← HM.out]
      have hru := sum_rng (f := usesS) (l := l.take k) fun x hx => loopsI_rng (hok x (List.mem_of_mem_take hx)) _
      have hrm := sum_rng (f := makesS) (l := l.take k) fun x hx => loopsI_rng (hok x (List.mem_of_mem_take hx)) _
      rw [← HU.out, List.length_take] at hru
      rw [← HM.out, List.length_take] at hrm
      have hsu : 0 ≤ usesS s ∧ usesS s ≤ 206 := loopsI_rng hsok _
      have hsm : 0 ≤ makesS s ∧ makesS s ≤ 206 := loopsI_rng hsok _
      have hwu : IntKind.i64.wrap (u + usesS s) = u + usesS s := IntWalk.i64_in _ (by omega)
      have hwm : IntKind.i64.wrap (m + makesS s) = m + makesS s := IntWalk.i64_in _ (by omega)
      have hrf := formI_rng (k := s.kind)
      have HF := forms_any s.kind hswf
      have HLu := Lib.hid (fun w => loops_any s (formI s.kind).uses ⟨hrf.1, hrf.2.1⟩ ⟨(ok_rng hsok).1.1, by have := (ok_rng hsok).1; omega⟩ ⟨(ok_rng hsok).2.1, by have := (ok_rng hsok).2; omega⟩ w)
      have HLm := Lib.hid (fun w => loops_any s (formI s.kind).made ⟨hrf.2.2.1, hrf.2.2.2.1⟩ ⟨(ok_rng hsok).1.1, by have := (ok_rng hsok).1; omega⟩ ⟨(ok_rng hsok).2.1, by have := (ok_rng hsok).2; omega⟩ w)
      change Hid (∀ w, Calls _ _ _ _ fun e w' => RetE (usesS s) w e w') at HLu
      change Hid (∀ w, Calls _ _ _ _ fun e w' => RetE (makesS s) w e w') at HLm
      generalize usesS s = us at HU2 hwu HLu hsu
      generalize makesS s = ms at HM2 hwm HLm hsm
      generalize decide (1 ≤ s.kind ∧ s.kind ≤ 10) = qk at HF
      generalize formI s.kind = f at HF HLu HLm hrf
      have HF2 := Lib.hid (show ∀ w, Calls Tryz.prog 82 #[.int .u8 s.kind] w fun e w' => e = .returned (.tuple #[.agg #[.string f.letter, .int .i64 f.a0, .int .i64 f.a1, .int .i64 f.b0, .int .i64 f.b1, .bool f.sided, .int .i64 f.uses, .int .i64 f.made], .bool qk]) ∧ Below w.heap.size w w' from HF)
      have HRg := Lib.hid (show _ ∧ _ from ⟨hru, hrm⟩)
      clear hz hs hc hw hok HF HU HM hsok hswf hru hrm hsu hsm hrf
      go_upto_region 5 with (go_at_call 82; refine (HF2.out _).mono ?_; rintro e w1 ⟨rfl, hb1⟩)
      refine abs_world (Q := fun W => Code.wp _ _ _ _ W) (F := fun W => Below w.heap.size w W ∧ StcAt W wr.heap.size 0 s ∧ FormAt W w1.heap.size 0 f) _ ?_ ?_
      · have hs1 : StcAt w1 wr.heap.size 0 s := by
          have h0 : StcAt (wr.alloc (.cells #[.int .u8 s.kind, .bool s.purl, .int .i64 s.a, .int .i64 s.b] 51)) wr.heap.size 0 s := ⟨cell_new rfl rfl rfl, cell_new rfl rfl rfl, cell_new rfl rfl rfl, cell_new rfl rfl rfl⟩
          exact h0.below (B := wr.heap.size + 1) (hb1.mono (by simp)) (by omega)
        have hsz : wr.heap.size + 1 ≤ w1.heap.size := by have := hb1.size; simpa using this
        have hbz := hbw.size
        have hbw1 : Below w.heap.size w w1 := (hbw.alloc hbw.size _).trans (hb1.mono (by simp; omega))
        refine ⟨hbw1.alloc (by omega) _, hs1.below (B := w1.heap.size) ((Below.refl _ _).alloc (Nat.le_refl _) _) (by omega), ?_⟩
        exact ⟨cell_new rfl rfl rfl, cell_new rfl rfl rfl, cell_new rfl rfl rfl, cell_new rfl rfl rfl, cell_new rfl rfl rfl, cell_new rfl rfl rfl, cell_new rfl rfl rfl, cell_new rfl rfl rfl⟩
      rintro W ⟨hbW, hS, hFm⟩
      have HK := Lib.hid (fun w2 (hb : Below W.heap.size W w2) => (⟨hS.below hb hS.lt, hFm.below hb hFm.lt⟩ : StcAt w2 wr.heap.size 0 s ∧ FormAt w2 w1.heap.size 0 f))
      obtain ⟨s0, s1, s2, s3⟩ := hS
      obtain ⟨f0, f1, f2, f3, f4, f5, f6, f7⟩ := hFm
      simp only [Nat.zero_add] at s1 s2 s3 f1 f2 f3 f4 f5 f6 f7
      have HB := Lib.hid hbW
      clear hbW HF2 hb1 hbw c0 c1 c2 c3
      go_wp2_with (first
        | (go_at_call_of 120 (Value.int .i64 f.uses); refine (HLu.out _).mono ?_; rintro e w2 ⟨rfl, hb2⟩
           obtain ⟨⟨t0, t1, t2, t3⟩, g0, g1, g2, g3, g4, g5, g6, g7⟩ := HK.out _ hb2
           simp only [Nat.zero_add] at t1 t2 t3 g1 g2 g3 g4 g5 g6 g7)
        | (go_at_call_of 120 (Value.int .i64 f.made); refine (HLm.out _).mono ?_; rintro e w3 ⟨rfl, hb3⟩))
      go_roundw
      case rel => exact ⟨k + 1, _, _, by omega, by go_num, rfl, rfl, HU2, HM2, HB.out.trans ((hb2.trans (hb3.mono hb2.size)).mono HB.out.size)⟩
      case measure => simp [intOf]; omega
    · obtain rfl : k = l.length := by omega
      have HU2 : Hid (u = sumU l) := by have := HU.out; rwa [List.take_length] at this
      have HM2 : Hid (m = sumM l) := by have := HM.out; rwa [List.take_length] at this
      clear hs hw hok HU HM
      go_wp2
      go_ret2
      exact ⟨by rw [← HU2.out, ← HM2.out]; rfl, hbw⟩

/-- The error of a list of cells. -/
def allE (l : List Stc) : Int := if 200 < l.length then 4 else if l.any (fun s => decide (s.err ≠ 0)) then 8 else if 200 < sumU l ∨ 200 < sumM l then 4 else 0
theorem all1_any (s : Stc) (hs : s.wf) (w : World) : Calls Tryz.prog 106 #[s.val] w fun e w' => e = .returned (.bool (decide (s.err ≠ 0))) ∧ Below w.heap.size w w' := by
  have HC := Lib.hid (fun w => scheck_any s hs w)
  have hb := Lib.hid (fun o => (Below.refl w.heap.size w).alloc (Nat.le_refl _) o)
  by_cases he : s.err = 0
  · have HR : Hid (decide (s.err ≠ 0) = false) := by simp [Hid, he]
    rw [he] at HC
    clear he
    go_enter Tryz.func106, Tryz.ntmps106
    go_wp2_with (go_at_call 107; refine (HC.out _).mono ?_; rintro e w1 ⟨rfl, hb1⟩)
    go_ret
    exact ⟨ret_bool HR.out.symm, (hb.out _).trans (hb1.mono (by simp))⟩
  · have HR : Hid (decide (s.err ≠ 0) = true) := by simp [Hid, he]
    have hbn : (s.err != 0) = true := by simp [he]
    have hbn2 : (s.err == 0) = false := by simp [he]
    clear he
    go_enter Tryz.func106, Tryz.ntmps106
    go_wp2_with (go_at_call 107; refine (HC.out _).mono ?_; rintro e w1 ⟨rfl, hb1⟩)
    go_ret
    exact ⟨ret_bool HR.out.symm, (hb.out _).trans (hb1.mono (by simp))⟩
end Go.Proofs.YtbnddpknejgmhaaGreat
namespace Go.Proofs.YtbnddpknejgmhaaGreat
open Go.RowKit
set_option maxRecDepth 100000

theorem err_ok {s : Stc} (h : ¬ s.err ≠ 0) : s.ok = true := by
  unfold Stc.err at h
  cases hk : s.ok with
  | true => rfl
  | false => rw [hk] at h; simp at h
set_option maxHeartbeats 1000000 in
theorem all_any (A : Option Addr) (c : Nat) (l : List Stc) (hw : ∀ s ∈ l, s.wf) (w : World) (hs : SlT w w.heap.size A l) :
    Calls Tryz.prog 80 #[.slice A l.length c] w fun e w' => RetE (allE l) w e w' := by
  by_cases h1 : 200 < l.length
  · have HE : Hid (allE l = 4) := by unfold Hid allE; rw [if_pos h1]
    clear hs hw
    go_enter Tryz.func80, Tryz.ntmps80
    go_wp2
    go_ret
    exact RetE.mk' HE.out (Below.refl _ _)
  have hcall := Lib.hid (contT_any 106 #[] (enters_of Tryz.func106 (by kernel_rfl) rfl) (fun i => decide (i.err ≠ 0)) A c l w hs (by omega) (fun x hx w' _ => all1_any x (hw x hx) w'))
  cases hb : l.any (fun i => decide (i.err ≠ 0)) with
  | true =>
    have HE : Hid (allE l = 8) := by unfold Hid allE; rw [if_neg h1, hb, if_pos rfl]
    rw [hb] at hcall
    clear hs hw hb
    go_enter Tryz.func80, Tryz.ntmps80
    go_wp2_with (go_at_call 47; refine hcall.out.mono ?_; rintro e w' ⟨rfl, hb1⟩)
    go_ret
    exact RetE.mk' HE.out hb1
  | false =>
    have HE : Hid (allE l = if 200 < sumU l ∨ 200 < sumM l then 4 else 0) := by unfold Hid allE; rw [if_neg h1, hb, if_neg (by simp)]
    have hok : ∀ s ∈ l, s.ok = true := fun s hs => by
      rw [List.any_eq_false] at hb
      exact err_ok (by simpa using hb s hs)
    have HSm := Lib.hid (fun w' (hb : Below w.heap.size w w') => sum_any A c l hw hok (by omega) w' ((hs.below hb).more hb.size))
    rw [hb] at hcall
    clear hs hw hb hok
    generalize sumU l = u at HE HSm
    generalize sumM l = m at HE HSm
    by_cases h2 : 200 < u ∨ 200 < m
    · have HE2 : Hid (allE l = 4) := by unfold Hid; rw [HE.out, if_pos h2]
      have h3 : decide (200 < max u m) = true := decide_eq_true (by omega)
      clear HE
      go_enter Tryz.func80, Tryz.ntmps80
      go_wp2_with (first
        | (go_at_call 47; refine hcall.out.mono ?_; rintro e w' ⟨rfl, hb1⟩)
        | (go_at_call 105; refine (HSm.out _ hb1).mono ?_; rintro e w2 ⟨rfl, hb2⟩))
      all_goals go_ret
      all_goals exact RetE.mk' HE2.out (hb1.trans (hb2.mono hb1.size))
    · have HE2 : Hid (allE l = 0) := by unfold Hid; rw [HE.out, if_neg h2]
      have h3 : decide (200 < max u m) = false := decide_eq_false (by omega)
      have h4 : u ≤ 200 := by omega
      have h5 : m ≤ 200 := by omega
      clear HE h2
      go_enter Tryz.func80, Tryz.ntmps80
      go_wp2_with (first
        | (go_at_call 47; refine hcall.out.mono ?_; rintro e w' ⟨rfl, hb1⟩)
        | (go_at_call 105; refine (HSm.out _ hb1).mono ?_; rintro e w2 ⟨rfl, hb2⟩))
      all_goals go_ret
      all_goals exact RetE.mk' HE2.out (hb1.trans (hb2.mono hb1.size))

theorem all_zero {l : List Stc} (h : allE l = 0) : l.length ≤ 200 ∧ (∀ s ∈ l, s.ok = true) ∧ sumU l ≤ 200 ∧ sumM l ≤ 200 := by
  unfold allE at h
  by_cases h1 : 200 < l.length
  · rw [if_pos h1] at h; cases h
  rw [if_neg h1] at h
  cases hb : l.any (fun i => decide (i.err ≠ 0)) with
  | true => rw [hb, if_pos rfl] at h; cases h
  | false =>
    rw [hb, if_neg (by simp)] at h
    by_cases h2 : 200 < sumU l ∨ 200 < sumM l
    · rw [if_pos h2] at h; cases h
    · refine ⟨by omega, fun s hs => ?_, by omega, by omega⟩
      rw [List.any_eq_false] at hb
      exact err_ok (by simpa using hb s hs)
def usesE (l : List Stc) : Int := if allE l = 0 then sumU l else 0
def makesE (l : List Stc) : Int := if allE l = 0 then sumM l else 0
set_option maxHeartbeats 1000000 in
theorem uses_any (A : Option Addr) (c : Nat) (l : List Stc) (hw : ∀ s ∈ l, s.wf) (w : World) (hs : SlT w w.heap.size A l) :
    Calls Tryz.prog 77 #[.slice A l.length c] w fun e w' => e = .returned (.tuple #[.int .i64 (usesE l), .int .i64 (allE l)]) ∧ Below w.heap.size w w' := by
  have HA := Lib.hid (all_any A c l hw w hs)
  by_cases he : allE l = 0
  · have hz := all_zero he
    have HU : Hid (usesE l = sumU l) := by unfold Hid usesE; rw [if_pos he]
    have HSm := Lib.hid (fun w' (hb : Below w.heap.size w w') => sum_any A c l hw hz.2.1 (by omega) w' ((hs.below hb).more hb.size))
    rw [he] at HA ⊢
    clear hs hw hz he
    go_enter Tryz.func77, Tryz.ntmps77
    go_wp2_with (first
      | (go_at_call 80; refine HA.out.mono ?_; rintro e w' ⟨rfl, hb1⟩)
      | (go_at_call 105; refine (HSm.out _ hb1).mono ?_; rintro e w2 ⟨rfl, hb2⟩))
    go_ret2
    exact ⟨by rw [HU.out]; rfl, hb1.trans (hb2.mono hb1.size)⟩
  · have HU : Hid (usesE l = 0) := by unfold Hid usesE; rw [if_neg he]
    have hb : (allE l == 0) = false := beq_eq_false_iff_ne.2 he
    generalize allE l = x at HA hb ⊢
    clear hs hw he
    go_enter Tryz.func77, Tryz.ntmps77
    go_wp2_with (go_at_call 80; refine HA.out.mono ?_; rintro e w' ⟨rfl, hb1⟩)
    go_ret2
    exact ⟨by rw [HU.out]; rfl, hb1⟩
set_option maxHeartbeats 1000000 in
theorem makes_any (A : Option Addr) (c : Nat) (l : List Stc) (hw : ∀ s ∈ l, s.wf) (w : World) (hs : SlT w w.heap.size A l) :
    Calls Tryz.prog 78 #[.slice A l.length c] w fun e w' => e = .returned (.tuple #[.int .i64 (makesE l), .int .i64 (allE l)]) ∧ Below w.heap.size w w' := by
  have HA := Lib.hid (all_any A c l hw w hs)
  by_cases he : allE l = 0
  · have hz := all_zero he
    have HU : Hid (makesE l = sumM l) := by unfold Hid makesE; rw [if_pos he]
    have HSm := Lib.hid (fun w' (hb : Below w.heap.size w w') => sum_any A c l hw hz.2.1 (by omega) w' ((hs.below hb).more hb.size))
    rw [he] at HA ⊢
    clear hs hw hz he
    go_enter Tryz.func78, Tryz.ntmps78
    go_wp2_with (first
      | (go_at_call 80; refine HA.out.mono ?_; rintro e w' ⟨rfl, hb1⟩)
      | (go_at_call 105; refine (HSm.out _ hb1).mono ?_; rintro e w2 ⟨rfl, hb2⟩))
    go_ret2
    exact ⟨by rw [HU.out]; rfl, hb1.trans (hb2.mono hb1.size)⟩
  · have HU : Hid (makesE l = 0) := by unfold Hid makesE; rw [if_neg he]
    have hb : (allE l == 0) = false := beq_eq_false_iff_ne.2 he
    generalize allE l = x at HA hb ⊢
    clear hs hw he
    go_enter Tryz.func78, Tryz.ntmps78
    go_wp2_with (go_at_call 80; refine HA.out.mono ?_; rintro e w' ⟨rfl, hb1⟩)
    go_ret2
    exact ⟨by rw [HU.out]; rfl, hb1⟩
end Go.Proofs.YtbnddpknejgmhaaGreat
namespace Go.Proofs.YtbnddpknejgmhaaGreat
open Go.RowKit Go.Shelf
set_option maxRecDepth 100000

/-- A row: whether it is seen from the back, its cells. -/
abbrev RowC := Bool × List Stc
/-- The slice value '.slice A p.length c' holds rows, below block B. -/
def SlC (w : World) (B : Nat) (A : Option Addr) (p : List RowC) : Prop :=
  p ≠ [] → ∃ b off, A = some ⟨b, off, none⟩ ∧ b < B ∧ ∀ j r, p[j]? = some r → ∃ A' C', w.cell? ⟨b, off + j * 2, none⟩ = some (.bool r.1) ∧ w.cell? ⟨b, off + j * 2 + 1, none⟩ = some (.slice A' r.2.length C') ∧ r.2.length ≤ C' ∧ SlT w B A' r.2
theorem SlC.below {w w' : World} {B : Nat} {A : Option Addr} {p : List RowC} (h : SlC w B A p) (hb : Below B w w') : SlC w' B A p := fun hn => by
  obtain ⟨b, off, e, hB, hc⟩ := h hn
  refine ⟨b, off, e, hB, fun j r hr => ?_⟩
  obtain ⟨A', C', h0, h1, h2, h3⟩ := hc j r hr
  exact ⟨A', C', (bcell hb hB _).trans h0, (bcell hb hB _).trans h1, h2, h3.below hb⟩
theorem SlC.more {w : World} {B B' : Nat} {A : Option Addr} {p : List RowC} (h : SlC w B A p) (hB' : B ≤ B') : SlC w B' A p := fun hn => by
  obtain ⟨b, off, e, hB, hc⟩ := h hn
  refine ⟨b, off, e, by omega, fun j r hr => ?_⟩
  obtain ⟨A', C', h0, h1, h2, h3⟩ := hc j r hr
  exact ⟨A', C', h0, h1, h2, h3.more hB'⟩
theorem SlC.at_ {w : World} {B : Nat} {A : Option Addr} {p : List RowC} (h : SlC w B A p) {k : Nat} (hk : k < p.length) :
    ∃ b off r A' C', A = some ⟨b, off, none⟩ ∧ b < B ∧ p[k]? = some r ∧ w.cell? ⟨b, off + k * 2, none⟩ = some (.bool r.1) ∧ w.cell? ⟨b, off + k * 2 + 1, none⟩ = some (.slice A' r.2.length C') ∧ r.2.length ≤ C' ∧ SlT w B A' r.2 := by
  obtain ⟨b, off, e, hB, hc⟩ := h (fun e => by subst e; simp at hk)
  obtain ⟨A', C', h0, h1, h2, h3⟩ := hc k _ (List.getElem?_eq_getElem hk)
  exact ⟨b, off, p[k], A', C', e, hB, List.getElem?_eq_getElem hk, h0, h1, h2, h3⟩
theorem KC.slS {sz B0 : Nat} {A B : World} (h : KC B0 A B) {n : Nat} (hn : n ≤ B0) {a : Option Addr} {zs : List (List Value)} (hs : SlS sz A n a zs) : SlS sz B n a zs := fun hz => by
  obtain ⟨b, off, e, hB, hc⟩ := hs hz
  exact ⟨b, off, e, hB, fun j cs hj i v hv => h.cell (by omega) (hc j cs hj i v hv)⟩
theorem KC.slC {B0 : Nat} {A B : World} (h : KC B0 A B) {n : Nat} (hn : n ≤ B0) {a : Option Addr} {p : List RowC} (hs : SlC A n a p) : SlC B n a p := fun hz => by
  obtain ⟨b, off, e, hB, hc⟩ := hs hz
  refine ⟨b, off, e, hB, fun j r hj => ?_⟩
  obtain ⟨A', C', h0, h1, h2, h3⟩ := hc j r hj
  exact ⟨A', C', h.cell (by omega) h0, h.cell (by omega) h1, h2, KC.slS h hn h3⟩
def RowsWf (p : List RowC) : Prop := ∀ r ∈ p, ∀ s ∈ r.2, s.wf

/-! ### the counts -/
structure Cnt where
  i : Int
  before : Int
  after : Int
  e : Int
def rowE (n : Int) (r : List Stc) : Int := if allE r ≠ 0 then allE r else if usesE r ≠ n then 26 else 0
def rowA (n : Int) (r : List Stc) : Int := if rowE n r = 0 then makesE r else 0
def itemsF : Nat → Int → List RowC → List Cnt
  | _, _, [] => []
  | i, n, r :: t => ⟨i, n, rowA n r.2, rowE n r.2⟩ :: if rowE n r.2 = 0 then itemsF (i + 1) (rowA n r.2) t else []
def errR : Int → List RowC → Int
  | _, [] => 0
  | n, r :: t => if rowE n r.2 = 0 then errR (rowA n r.2) t else rowE n r.2
def chartE (start : Int) (p : List RowC) : Int := if 100 < p.length then 4 else if start < 0 ∨ 200 < start then 8 else errR start p
def encC (x : Cnt) : Array Value := #[.int .i64 x.i, .agg #[.int .i64 x.before, .int .i64 x.after, .int .i64 x.e]]

theorem counted_any (start : Int) (A : Option Addr) (n c : Nat) (w : World) :
    Calls Tryz.prog 46 #[.agg #[.int .i64 start, .slice A n c]] w fun e w' => e = .returned (.func (.func 76) #[] #[.pointer (some ⟨w.heap.size, 0, none⟩)]) ∧ w.alloc (.cells #[.int .i64 start, .slice A n c] 24) = w' := by
  have hmf : ∀ (fn : Fn) (first cap : Array Value) (w : World), (Instr.makeFunc fn first cap).run Tryz.prog w = .ok (.func fn first cap) w := fun _ _ _ _ => rfl
  go_enter Tryz.func46, Tryz.ntmps46
  go_wp2
  go_ret
  exact ⟨rfl, rfl⟩
end Go.Proofs.YtbnddpknejgmhaaGreat
