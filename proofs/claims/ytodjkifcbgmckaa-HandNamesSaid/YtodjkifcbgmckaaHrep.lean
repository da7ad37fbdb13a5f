/- Layer 29: hand.Replay, walked. -/
import Derived.Test.YtodjkifcbgmckaaHrP
import Derived.Test.YtodjkifcbgmckaaHch
import Derived.Deep.RegionHeld3
import Derived.Deep.AppendLies
namespace Go.Proofs.Ytodjkifcbgmckaa
open Go.RowKit Go.Shelf Go.Sort
set_option maxRecDepth 100000

theorem rep_close {W : World} {tmps : Array Value} {v f : Value} {x : Int} {b : Nat} {R : Ending → World → Prop} (c0 : W.cell? ⟨b, 0, none⟩ = some v) (c1 : W.cell? ⟨b, 1, none⟩ = some f) (h6 : tmps[6]?.getD undef = .pointer (some ⟨b, 0, none⟩)) (h7 : tmps[7]?.getD undef = .int .i64 x) (hR : R (.returned (.tuple #[.agg #[v, f], .int .i64 x])) W) :
    bodyPost Try.prog Try.f11 R .ret { tmps := tmps, defers := [] } W := by
  refine bodyPost_ret (v := .tuple #[.agg #[v, f], .int .i64 x]) ?_ rfl hR
  simp [results, Try.results11, go_sem, h6, h7, c0, c1]
abbrev brdZero : Obj := .cells #[.slice none 0 0, .slice none 0 0] 26
/-- The result's box, ahead of all that a replay makes. -/
structure RsB (w W : World) : Prop where
  lo : Below w.heap.size w W
  sz : w.heap.size + 1 ≤ W.heap.size
  c0 : W.cell? ⟨w.heap.size, 0, none⟩ = some (.slice none 0 0)
  c1 : W.cell? ⟨w.heap.size, 1, none⟩ = some (.slice none 0 0)
  fz : ∀ k, W.frozen? ⟨w.heap.size, k, none⟩ = false
theorem box_new (w : World) (v f : Value) : (rowB w.heap.size v f).lies (w.alloc (.cells #[v, f] 26)) w.heap.size := World.ownsRow_lit (e := 26) w #[v, f] 1 (base := w.heap.size) (size := 2) (Nat.le_refl _) (by decide) rfl
theorem RsB.new (w : World) : RsB w (w.alloc brdZero) := by
  obtain ⟨h0, h1, h2⟩ := rowB_at (box_new w (.slice none 0 0) (.slice none 0 0))
  exact ⟨(Below.refl _ w).alloc (Nat.le_refl _) _, by simp, h0, h1, h2⟩
theorem RsB.to {w W W' : World} (h : RsB w W) (hb : Below W.heap.size W W') : RsB w W' :=
  ⟨h.lo.trans (hb.mono h.lo.size), Nat.le_trans h.sz hb.size, (bcell hb h.sz _).trans h.c0, (bcell hb h.sz _).trans h.c1, fun k => (Below.frozen hb (p := ⟨w.heap.size, k, none⟩) h.sz).trans (h.fz k)⟩
/-- What the result's box holds behind a return. -/
theorem RsB.put {w W : World} (h : RsB w W) (v f : Value) : ((W.setCell ⟨w.heap.size, 0, none⟩ v).setCell ⟨w.heap.size, 1, none⟩ f).cell? ⟨w.heap.size, 0, none⟩ = some v ∧ ((W.setCell ⟨w.heap.size, 0, none⟩ v).setCell ⟨w.heap.size, 1, none⟩ f).cell? ⟨w.heap.size, 1, none⟩ = some f ∧ Below w.heap.size w ((W.setCell ⟨w.heap.size, 0, none⟩ v).setCell ⟨w.heap.size, 1, none⟩ f) := by
  refine ⟨?_, ?_, (h.lo.setCell (p := ⟨w.heap.size, 0, none⟩) (Nat.le_refl _) _).setCell (p := ⟨w.heap.size, 1, none⟩) (Nat.le_refl _) _⟩
  · rw [World.cell?_setCell_other _ _ _ _ (fun e => by cases e)]
    exact World.cell?_setCell_same' _ _ _ (by rw [h.c0]; rfl)
  · refine World.cell?_setCell_same' _ _ _ ?_
    rw [World.cell?_setCell_other _ _ _ _ (fun e => by cases e), h.c1]; rfl
theorem RsB.stop {w W : World} (h : RsB w W) {r : Brd × Int} {x : Int} (hr : r = (⟨[], []⟩, x)) : brdOut r w (.returned (.tuple #[.agg #[.slice none 0 0, .slice none 0 0], .int .i64 x])) ((W.setCell ⟨w.heap.size, 0, none⟩ (.slice none 0 0)).setCell ⟨w.heap.size, 1, none⟩ (.slice none 0 0)) := brdOut.stop hr (h.put _ _).2.2

theorem info_ints : (Try.prog.info? 22).map (fun i => (i.zero, i.size, i.bytes)) = some (some (.slice none 0 0), 1, 24) := by kernel_rfl
theorem RpI.box {W1 W : World} {g tb db k n : Nat} {s : RpS} {vs : List (Value × List Int)} {X : List Own} (h : RpI W1 g tb db k n s vs X W) (m : Mv) : RpI W1 g tb db k n s vs (rowMv W.heap.size m :: X) (W.alloc (.cells #[.bool m.slip, .int .i64 m.nd] 69)) := by
  have h1 := h.qx.add (o := rowMv W.heap.size m) ((Below.refl _ W).alloc (Nat.le_refl _) _) h.lo.size (World.ownsRow_lit (e := 69) W #[.bool m.slip, .int .i64 m.nd] 1 (base := W.heap.size) (size := 2) (Nat.le_refl _) (by decide) rfl)
  exact ⟨h1.perm ((List.Perm.swap _ _ _).trans (List.Perm.cons _ (List.Perm.swap _ _ _))), h.rd, h.lo.alloc h.lo.size _⟩
/-- A round that takes a loop from a queue. -/
theorem set_at_ne {vs : List (Value × List Int)} {k a : Nat} {p q : Value × List Int} (h : vs[a]? = some q) (hne : a ≠ k) : (vs.set k p)[a]? = some q := by rw [List.getElem?_set_ne (fun e => hne e.symm)]; exact h
theorem perm3 {α : Type} (a b c : α) : [a, b, c].Perm [c, a, b] := (List.Perm.cons a (List.Perm.swap c b [])).trans (List.Perm.swap c a [b])
theorem owns_low {W : World} {B b : Nat} {L : List Own} (h : Owns W B L) (hb : b < B) (k : Nat) (v : Value) : Owns (W.setCell ⟨b, k, none⟩ v) B L := by
  refine ⟨fun o ho => ?_, h.apart⟩
  refine World.ownsRow.kept (h.all o ho) (w := W) (row := some b) ⟨rfl, rfl, rfl, by simp, fun j _ hj => Below.heap_setCell W _ _ j (fun e => hj (by rw [e]))⟩ ?_
  cases e : o.v.ownBlock with
  | none => exact Or.inl rfl
  | some j =>
    refine Or.inr fun e2 => ?_
    have h1 := (World.ownsRow.lt (h.all o ho) j e).1
    have h2 : j = b := Option.some.inj e2
    omega
theorem owns_base {W : World} {B B' : Nat} {L : List Own} (h : Owns W B L) (hb : B' ≤ B) : Owns W B' L := ⟨fun o ho => World.ownsRow.mono (h.all o ho) hb, h.apart⟩
/-- A replay's answer, in its result's box. -/
theorem fr_out {w w2 W : World} {tb db pb n : Nat} {to_ deep : List Int} {F : Value} {prs : List (Int × Int)} {r : Brd × Int} (hF : FrI w2 tb db pb n to_ deep F prs W) (hR : RsB w w2) (hl : to_.length = n) (hr : r = (⟨to_, prs⟩, 0)) : brdOut r w (.returned (.tuple #[.agg #[.slice (some ⟨tb, 0, none⟩) n n, F], .int .i64 0])) ((W.setCell ⟨w.heap.size, 0, none⟩ (.slice (some ⟨tb, 0, none⟩) n n)).setCell ⟨w.heap.size, 1, none⟩ F) := by
  subst hr hl
  have ho : Owns W w2.heap.size [rowN tb to_.length to_, rowP F prs] := (hF.own.sub (List.Sublist.cons_cons _ (List.Sublist.cons _ (List.Sublist.cons_cons _ (List.nil_sublist _))))).swap
  have hs := hR.sz
  refine ⟨_, _, rfl, owns_base (owns_low (owns_low ho (by omega) 0 _) (by omega) 1 _) (by omega), ((hR.to hF.lo).put _ _).2.2⟩
/-- n zeros are made. -/
theorem mk_ints (w : World) (n : Nat) (hn : n ≤ 1000000) : ∃ w', (Instr.makeSlice 22 (.int .i64 (n : Int)) (.int .i64 (n : Int))).run Try.prog w = .ok (.slice (some ⟨w.heap.size, 0, none⟩) n n) w' ∧ (rowN w.heap.size n (List.replicate n 0)).lies w' w.heap.size ∧ Below w.heap.size w w' := by
  obtain ⟨i1, hi', hz0', hz1', hz2'⟩ := info_parts info_int'
  obtain ⟨w3, hmr, hob, hgb⟩ := run_make_full (P := Try.prog) w w.heap.size 22 3 i1 (.int .i64 0) 1 Try.underlying22 hi' hz0' hz1' .i64 .i64 n (by rw [hz2']; omega) (by unfold maxLen; omega) (Nat.le_refl _)
  refine ⟨w3, hmr, ?_, (Below.refl _ w).grown hgb (Nat.le_refl _) (fun k e => by cases e)⟩
  have e : (madeCells (Value.int .i64 0).cells (n * 1)).toList = intV (List.replicate n 0) := by
    rw [Nat.mul_one]
    refine (toList_madeCells_one _ _).trans ?_
    unfold intV
    rw [List.map_replicate]
  rw [e] at hob
  exact hob
/-- Empty queues are made. -/
theorem mk_qs (w : World) (n : Nat) (hn : n ≤ 1000001) : ∃ w', (Instr.makeSlice 70 (.int .i64 (n : Int)) (.int .i64 (n : Int))).run Try.prog w = .ok (.slice (some ⟨w.heap.size, 0, none⟩) n n) w' ∧ QX w.heap.size w.heap.size n (List.replicate n (.slice none 0 0, [])) [] w' ∧ Below w.heap.size w w' := by
  obtain ⟨i1, hi', hz0', hz1', hz2'⟩ := info_parts info_ints
  obtain ⟨w3, hmr, hob, hgb⟩ := run_make_full (P := Try.prog) w w.heap.size 70 22 i1 (.slice none 0 0) 1 Try.underlying70 hi' hz0' hz1' .i64 .i64 n (by rw [hz2']; omega) (by unfold maxLen; omega) (Nat.le_refl _)
  refine ⟨w3, hmr, QX.new ?_, (Below.refl _ w).grown hgb (Nat.le_refl _) (fun k e => by cases e)⟩
  have e : (madeCells (Value.slice none 0 0).cells (n * 1)).toList = List.replicate n (.slice none 0 0) := by
    rw [Nat.mul_one]
    exact toList_madeCells_one _ _
  rw [e] at hob
  exact hob

set_option maxHeartbeats 64000000 in
theorem hrep_any (n : Int) (A : Option Addr) (c : Nat) (ns : List Int) (hn : ns.length ≤ 1000000) (M : Option Addr) (cm : Nat) (l : List Mv) (hl : l.length ≤ 1000000) (w : World) (hs : SlI w w.heap.size A ns) (hm : SlMv w w.heap.size M l) :
    Calls Try.prog 11 #[.int .i64 n, .slice A ns.length c, .slice M l.length cm] w fun e w' => brdOut (rpE n ns l) w e w' := by
  have HR1 := Lib.hid (RsB.new w)
  have HS := Lib.hid hs
  have HM := Lib.hid hm
  clear hs hm
  go_enter Try.func11, Try.ntmps11
  go_upto_region 1 with fail
  refine abs_world (Q := fun W => Code.wp _ _ _ _ W) (F := RsB w) _ HR1.out ?_
  clear HR1
  intro W0 hR1
  have HR1 := Lib.hid hR1
  clear hR1
  by_cases h0 : n < 0
  · have e1 : decide (n < 0) = true := decide_eq_true h0
    have HF : Hid (rpE n ns l = (⟨[], []⟩, 2)) := rpE_arg (Or.inl h0)
    clear h0
    obtain ⟨r0, r1⟩ : _ ∧ _ := ⟨HR1.out.c0, HR1.out.c1⟩
    have rf := HR1.out.fz
    have hlt := lt_of_cell r0
    have HP := Lib.hid (HR1.out.put (.slice none 0 0) (.slice none 0 0))
    have HO := Lib.hid (HR1.out.stop HF.out)
    clear HR1 HF 
    go_wp2
    exact rep_close HP.out.1 HP.out.2.1 rfl rfl HO.out
  have e1 : decide (n < 0) = false := decide_eq_false h0
  by_cases h8 : 8 < n
  · have e2 : decide (8 < n) = true := decide_eq_true h8
    have HF : Hid (rpE n ns l = (⟨[], []⟩, 2)) := rpE_arg (Or.inr (Or.inl h8))
    clear h0 h8
    obtain ⟨r0, r1⟩ : _ ∧ _ := ⟨HR1.out.c0, HR1.out.c1⟩
    have rf := HR1.out.fz
    have hlt := lt_of_cell r0
    have HP := Lib.hid (HR1.out.put (.slice none 0 0) (.slice none 0 0))
    have HO := Lib.hid (HR1.out.stop HF.out)
    clear HR1 HF 
    go_wp2
    exact rep_close HP.out.1 HP.out.2.1 rfl rfl HO.out
  have e2 : decide (8 < n) = false := decide_eq_false h8
  have HC : Hid (∀ W, Below w.heap.size w W → Calls Try.prog 32 #[.slice A ns.length c] W fun e w' => e = .returned (.bool (cabB ns)) ∧ Below W.heap.size W w') := fun W hb => hcables_any A c ns hn W ((HS.out.below hb).more hb.size)
  cases hcb : cabB ns with
  | false =>
    have HF : Hid (rpE n ns l = (⟨[], []⟩, 2)) := rpE_arg (Or.inr (Or.inr hcb))
    rw [hcb] at HC
    clear h0 h8 hcb
    go_upto_region 2 with ((go_at_call 32; refine (HC.out _ HR1.out.lo).mono ?_; rintro e w2 ⟨rfl, hb2⟩))
    have HR2 := Lib.hid (HR1.out.to hb2)
    clear hb2 HR1 HC
    obtain ⟨r0, r1⟩ : _ ∧ _ := ⟨HR2.out.c0, HR2.out.c1⟩
    have rf := HR2.out.fz
    have hlt := lt_of_cell r0
    have HP := Lib.hid (HR2.out.put (.slice none 0 0) (.slice none 0 0))
    have HO := Lib.hid (HR2.out.stop HF.out)
    clear HR2 HF 
    go_wp2
    exact rep_close HP.out.1 HP.out.2.1 rfl rfl HO.out
  | true =>
    rw [hcb] at HC
    obtain ⟨N, rfl⟩ : ∃ N : Nat, n = (N : Int) := ⟨n.toNat, by omega⟩
    have hN : N ≤ 8 := by omega
    obtain ⟨k, hk⟩ : ∃ k, k = ns.length := ⟨_, rfl⟩
    have hk4 : k ≤ 1000000 := by omega
    have HBad : Hid (∀ (i : Nat) (m : Mv), l[i]? = some m → mvOk k m = false → rpE (N : Int) ns l = (⟨[], []⟩, 8)) := fun i m hi hm => by subst hk; exact rpE_bad h0 h8 hcb hi hm
    have HRun : Hid ((∀ m ∈ l, mvOk k m = true) → rpE (N : Int) ns l = match rpRun N ns (rp0 N k) l with
      | none => (⟨[], []⟩, 36)
      | some s => if s.done = N then (⟨s.to_, rpFronts N s.to_ s.deep⟩, 0) else (⟨[], []⟩, 36)) := fun h => by subst hk; exact rpE_run hN hcb h
    have HD : Hid (∀ (a : Int), a < (k : Int) → ∀ W, Below w.heap.size w W → Calls Try.prog 33 #[.slice A ns.length c, .int .i64 a] W fun e w' => e = .returned (.int .i64 (deepI ns a)) ∧ W = w') := fun a ha W hb => deep_any A c ns a (by omega) hn W ((HS.out.below hb).more hb.size)
    rw [← hk] at HC HD ⊢
    clear h0 h8 hcb hk hn
    go_upto_region 3 with ((go_at_call 32; refine (HC.out _ HR1.out.lo).mono ?_; rintro e W1 ⟨rfl, hb2⟩))
    have HR := Lib.hid (HR1.out.to hb2)
    clear hb2 HR1 HC e1 e2
    go_wp2
    go_loopw [36] (fun s36 wr => ∃ i : Nat, i ≤ l.length ∧ s36 = .int .i64 (i : Int) ∧ Hid (mvTo k l i) ∧ Hid (Below W1.heap.size W1 wr)) (fun s36 _ => l.length - (intOf s36).toNat)
    case atStart => exact ⟨0, Nat.zero_le _, rfl, mvTo.zero _ _, Below.refl _ _⟩
    case round =>
      obtain ⟨i, hi, rfl, HT, HB⟩ := hrel
      by_cases hlt : i < l.length
      case pos =>
        obtain ⟨b, off, m, hA, hBb, him, q0, q1⟩ := HM.out.at_ hlt
        subst hA
        have hb' := HR.out.lo.trans (HB.out.mono HR.out.lo.size)
        have c0 := (bcell hb' hBb _).trans q0
        have c1 := (bcell hb' hBb _).trans q1
        have HI := Lib.hid him
        have HAl := Lib.hid (HB.out.alloc HB.out.size (.cells #[.bool m.slip, .int .i64 m.nd] 69))
        clear q0 q1 hb' hBb him
        by_cases hok : mvOk k m = true
        case pos =>
          have HT2 := Lib.hid (HT.out.next HI.out hok)
          have hmk : -1 ≤ m.nd ∧ m.nd < (k : Int) ∧ (m.slip = true → 0 ≤ m.nd) := mvOk_parts hok
          have d1 : decide (m.nd < -1) = false := decide_eq_false (by omega)
          have d2 : decide ((k : Int) ≤ m.nd) = false := decide_eq_false (by omega)
          clear hok HI HT
          obtain ⟨sl, nd⟩ := m
          cases sl with
          | true =>
            have d3 : decide (nd < 0) = false := decide_eq_false (by have := hmk.2.2 rfl; simp only at this; omega)
            clear hmk
            go_wp2
            go_roundw
            case rel => exact ⟨i + 1, by omega, by go_num, HT2.out, HAl.out⟩
            case measure => simp [intOf]; omega
          | false =>
            clear hmk
            go_wp2
            go_roundw
            case rel => exact ⟨i + 1, by omega, by go_num, HT2.out, HAl.out⟩
            case measure => simp [intOf]; omega
        case neg =>
          have hok : mvOk k m = false := by simpa using hok
          have HF := Lib.hid (HBad.out i m HI.out hok)
          have HR2 := Lib.hid (HR.out.to HAl.out)
          have hmk := mvOk_not hok
          clear hok HI HT HBad HRun HB HAl
          obtain ⟨sl, nd⟩ := m
          by_cases g1 : nd < -1
          · have d1 : decide (nd < -1) = true := decide_eq_true g1
            clear hmk g1
            obtain ⟨r0, r1⟩ : _ ∧ _ := ⟨HR2.out.c0, HR2.out.c1⟩
            have rf := HR2.out.fz
            have hlt := lt_of_cell r0
            have HP := Lib.hid (HR2.out.put (.slice none 0 0) (.slice none 0 0))
            have HO := Lib.hid (HR2.out.stop HF.out)
            clear HR2 HF 
            go_wp2
            exact rep_close HP.out.1 HP.out.2.1 rfl rfl HO.out
          · have d1 : decide (nd < -1) = false := decide_eq_false g1
            by_cases g2 : (k : Int) ≤ nd
            · have d2 : decide ((k : Int) ≤ nd) = true := decide_eq_true g2
              clear hmk g1 g2
              obtain ⟨r0, r1⟩ : _ ∧ _ := ⟨HR2.out.c0, HR2.out.c1⟩
              have rf := HR2.out.fz
              have hlt := lt_of_cell r0
              have HP := Lib.hid (HR2.out.put (.slice none 0 0) (.slice none 0 0))
              have HO := Lib.hid (HR2.out.stop HF.out)
              clear HR2 HF 
              go_wp2
              exact rep_close HP.out.1 HP.out.2.1 rfl rfl HO.out
            · have d2 : decide ((k : Int) ≤ nd) = false := decide_eq_false g2
              obtain ⟨hsl, g3⟩ : sl = true ∧ nd < 0 := by
                rcases hmk with h | h | h
                · exact absurd h g1
                · exact absurd h g2
                · exact h
              have d3 : decide (nd < 0) = true := decide_eq_true g3
              subst hsl
              clear hmk g1 g2 g3
              obtain ⟨r0, r1⟩ : _ ∧ _ := ⟨HR2.out.c0, HR2.out.c1⟩
              have rf := HR2.out.fz
              have hlt := lt_of_cell r0
              have HP := Lib.hid (HR2.out.put (.slice none 0 0) (.slice none 0 0))
              have HO := Lib.hid (HR2.out.stop HF.out)
              clear HR2 HF 
              go_wp2
              exact rep_close HP.out.1 HP.out.2.1 rfl rfl HO.out
      case neg =>
        have HOk := Lib.hid (HT.out.all hlt)
        have HRn := Lib.hid (HRun.out HOk.out)
        clear HT HBad HRun
        have HR2 := Lib.hid (HR.out.to HB.out)
        obtain ⟨w2, rfl⟩ : ∃ x : World, x = wr := ⟨_, rfl⟩
        have HLo := Lib.hid (HR.out.lo.trans (HB.out.mono HR.out.lo.size))
        obtain ⟨w3, hq, hqx, hb3⟩ := mk_qs w2 (k + 1) (by omega)
        rw [show ((k + 1 : Nat) : Int) = (k : Int) + 1 by omega] at hq
        have HQ0 : Hid (QX w2.heap.size w2.heap.size (k + 1) (qs0 k (.slice none 0 0) 0) [] w3) := by rw [qs0_start]; exact hqx
        clear hqx HB HR
        go_wp2
        clear hq hlt hi
        go_loopw [68] (fun s68 wr => ∃ (i : Nat) (v : Value), i ≤ N ∧ s68 = .int .i64 (i : Int) ∧ Hid (QX w2.heap.size w2.heap.size (k + 1) (qs0 k v i) [] wr) ∧ Hid (Below w2.heap.size w2 wr)) (fun s68 _ => N - (intOf s68).toNat)
        case atStart => exact ⟨0, _, Nat.zero_le _, rfl, HQ0.out, hb3⟩
        case round =>
          clear HQ0 hb3
          obtain ⟨i, v, hi, rfl, HQ, HB⟩ := hrel
          by_cases hlt : i < N
          case pos =>
            have hat := qs0_at k v i
            obtain ⟨c0, cf, A0, ca, hv⟩ := HQ.out.cell hat
            rw [natL_len, List.length_range] at hv
            subst hv
            have hxx : (wr.alloc (.cells #[.int .i64 (i : Int)] 3)).cell? ⟨wr.heap.size, 0, none⟩ = some (.int .i64 (i : Int)) := cell_new rfl rfl rfl
            have hba := HB.out.alloc HB.out.size (.cells #[.int .i64 (i : Int)] 3)
            obtain ⟨A1, c1, w4, hr, e2, ef, -, hb4, hq4⟩ := (HQ.out.to ((Below.refl _ wr).alloc (Nat.le_refl _) _)).push hba.size hat (i : Int) hxx (by rw [natL_len, List.length_range]; omega)
            rw [qs0_next] at hq4
            simp only [natL_len, List.length_range] at hr hq4
            have c0' := cell_al c0 (.cells #[.int .i64 (i : Int)] 3)
            have HQ4 := Lib.hid hq4
            have HB4 : Hid (∀ v, Below w2.heap.size w2 (w4.setCell ⟨w2.heap.size, k, none⟩ v)) := fun v => (hba.trans hb4).setCell (p := ⟨w2.heap.size, k, none⟩) (Nat.le_refl _) v
            clear hq4 hb4 hba hat hxx HQ HB
            go_wp2_with (at_builtin; refine wpList_append_run _ rfl _ _ _ _ rfl _ _ (by rfl) (by rfl) hr ?_)
            clear hr e2 ef c0 c0' cf
            go_roundw
            case rel => exact ⟨i + 1, _, by omega, by go_num, HQ4.out, HB4.out _⟩
            case measure => simp [intOf]; omega
          case neg =>
            obtain rfl : i = N := by omega
            obtain ⟨wa, hm1, hr1, hba⟩ := mk_ints wr i (by omega)
            obtain ⟨wb, hm2, hr2, hbb⟩ := mk_ints (wa.alloc (.cells #[.slice (some ⟨wr.heap.size, 0, none⟩) i i, .slice none 0 0] 26)) i (by omega)
            have hB0 := HB.out.size
            have hB1 := hba.size
            have hq3 := ((HQ.out.add hba hB0 hr1).add ((Below.refl _ wa).alloc (Nat.le_refl _) _) (by omega) (box_new wa (.slice (some ⟨wr.heap.size, 0, none⟩) i i) (.slice none 0 0))).add hbb (by simp; omega) hr2
            have HQ3 := Lib.hid (hq3.perm (perm3 _ _ _))
            have HB3 := Lib.hid (((HB.out.trans (hba.mono hB0)).alloc (by omega) (.cells #[.slice (some ⟨wr.heap.size, 0, none⟩) i i, .slice none 0 0] 26)).trans (hbb.mono (by simp; omega)))
            simp only [World.size_alloc] at hm2 HQ3
            have HQs := Lib.hid (qs0_all i k v)
            clear hq3 hr1 hr2 hba hbb hB0 hB1 HQ HB hlt hi
            go_upto_region 18 with fail
            refine abs_world (Q := fun W => Code.wp _ _ _ _ W) (F := fun W => RpI w2 w2.heap.size wr.heap.size (wa.heap.size + 1) k i (rp0 i k) (qs0 k v i) [rowB wa.heap.size (.slice (some ⟨wr.heap.size, 0, none⟩) i i) (.slice none 0 0)] W) _ ⟨HQ3.out, HQs.out, HB3.out⟩ ?_
            clear HQ3 HQs HB3 hm1 hm2
            intro w5 hI5
            obtain ⟨tb, htb⟩ : ∃ tb, tb = wr.heap.size := ⟨_, rfl⟩
            obtain ⟨pb, hpb⟩ : ∃ pb, pb = wa.heap.size := ⟨_, rfl⟩
            obtain ⟨db, hdb⟩ : ∃ db, db = pb + 1 := ⟨_, rfl⟩
            rw [← hpb, ← hdb, ← htb] at hI5 ⊢
            have HI5 := Lib.hid hI5
            clear htb hpb hdb hI5
            go_wp2
            go_loopw [15, 89] (fun s15 s89 wr => ∃ (j : Nat) (s : RpS) (vs : List (Value × List Int)), j ≤ l.length ∧ s15 = .int .i64 (s.done : Int) ∧ s89 = .int .i64 (j : Int) ∧ Hid (rpRun i ns (rp0 i k) l = rpRun i ns s (l.drop j)) ∧ Hid (RpOk i k s) ∧ Hid (DpOk s) ∧ Hid (RpI w2 w2.heap.size tb db k i s vs [rowB pb (.slice (some ⟨tb, 0, none⟩) i i) (.slice none 0 0)] wr)) (fun _ s89 _ => l.length - (intOf s89).toNat)
            case atStart => exact ⟨0, rp0 i k, _, Nat.zero_le _, rfl, rfl, rfl, RpOk.new _ _, DpOk.new _ _, HI5.out⟩
            case round =>
              clear HI5
              obtain ⟨j, s, vs, hj, rfl, rfl, HRp, HSo, HDp, HI⟩ := hrel
              by_cases hlt : j < l.length
              case pos =>
                obtain ⟨bb, off, m, hA, hBb, hjm, q0, q1⟩ := HM.out.at_ hlt
                subst hA
                have hb' := HLo.out.trans (HI.out.lo.mono HLo.out.size)
                have c0 := (bcell hb' hBb _).trans q0
                have c1 := (bcell hb' hBb _).trans q1
                have HJ := Lib.hid hjm
                have HMo := Lib.hid (HOk.out m (List.mem_of_getElem? hjm))
                have HIb := Lib.hid (HI.out.box m)
                clear q0 q1 hb' hBb hjm HI
                go_upto_region 22 with fail
                refine abs_world (Q := fun W => Code.wp _ _ _ _ W) (F := fun W => RpI w2 w2.heap.size tb db k i s vs [rowMv wr.heap.size m, rowB pb (.slice (some ⟨tb, 0, none⟩) i i) (.slice none 0 0)] W) _ HIb.out ?_
                clear HIb c0 c1
                intro W6 hI6
                obtain ⟨mb, hmb⟩ : ∃ mb, mb = wr.heap.size := ⟨_, rfl⟩
                rw [← hmb] at hI6 ⊢
                have HI6 := Lib.hid hI6
                clear hI6 hmb
                obtain ⟨m0, m1⟩ := rowMv_at (HI6.out.qx.own.all (rowMv mb m) (by simp))
                have HR6 := Lib.hid (HR2.out.to HI6.out.lo)
                have HSt : Hid (rpStep i ns s m = none → rpE (i : Int) ns l = (⟨[], []⟩, 36)) := fun h => by rw [HRn.out, rp_stop HJ.out h HRp.out]
                have HNx : Hid (∀ t, rpStep i ns s m = some t → RpOk i k t ∧ DpOk t ∧ rpRun i ns (rp0 i k) l = rpRun i ns t (l.drop (j + 1))) := fun t h => rp_next HJ.out HMo.out HSo.out HDp.out h HRp.out
                have hmk := mvOk_parts HMo.out
                by_cases hsl : m.slip = true
                · obtain ⟨a, ha⟩ : ∃ a : Nat, m.nd = (a : Int) := ⟨m.nd.toNat, by have := hmk.2.2 hsl; omega⟩
                  have hak : a < k := by omega
                  rw [hsl] at m0
                  rw [ha] at m1
                  have hqk := qs_last HSo.out
                  by_cases hle : s.left = i
                  · rw [range_nil (by omega)] at hqk
                    have HF : Hid (rpE (i : Int) ns l = (⟨[], []⟩, 36)) := HSt.out (by unfold rpStep; rw [if_pos (Or.inl hsl), if_pos hle])
                    obtain ⟨v, hv⟩ := vs_at HI6.out.rd hqk
                    obtain ⟨g0, gf, A0, ca, rfl⟩ := HI6.out.qx.cell hv
                    rw [show (natL []).length = 0 from rfl] at g0
                    clear hv hqk HNx HSt HI6 hmk hsl ha hak hle HRp HSo HDp HJ HMo
                    obtain ⟨r0, r1⟩ : _ ∧ _ := ⟨HR6.out.c0, HR6.out.c1⟩
                    have rf := HR6.out.fz
                    have hlt := lt_of_cell r0
                    have HP := Lib.hid (HR6.out.put (.slice none 0 0) (.slice none 0 0))
                    have HO := Lib.hid (HR6.out.stop HF.out)
                    clear HR6 HF 
                    go_wp2
                    exact rep_close HP.out.1 HP.out.2.1 rfl rfl HO.out
                  · have hll : s.left < i := by have := HSo.out.left; omega
                    rw [range_pop hll, natL_cons] at hqk
                    obtain ⟨r, hr⟩ : ∃ r, r = natL (List.range' (s.left + 1) (i - (s.left + 1))) := ⟨_, rfl⟩
                    rw [← hr] at hqk
                    have HRr := Lib.hid hr
                    have HSl := Lib.hid hsl
                    have HNd := Lib.hid ha
                    have HLe := Lib.hid hle
                    clear hr hsl hle hmk ha
                    obtain ⟨v, hv⟩ := vs_at HI6.out.rd hqk
                    obtain ⟨qb, qo, cap, rfl, hcap, g0, gf, x0, hqx⟩ := HI6.out.qx.pop hv
                    have HX7 : Hid (QX w2.heap.size w2.heap.size (k + 1) _ _ _ ∧ Below w2.heap.size w2 _) := ⟨hqx, HI6.out.lo.setCell (p := ⟨w2.heap.size, k, none⟩) (Nat.le_refl _) (popV qb qo r.length cap)⟩
                    have t0 : ((r.length : Int) + 1 == 0) = false := beq_eq_false_iff_ne.2 (by omega)
                    have t1 : (r.length + 1 == 0) = false := beq_eq_false_iff_ne.2 (by omega)
                    have h1c : 1 ≤ cap := by omega
                    clear hqx hv hqk
                    go_upto_region 29 with fail
                    refine abs_world (Q := fun W => Code.wp _ _ _ _ W) (F := fun W => QX w2.heap.size w2.heap.size (k + 1) (vs.set k (popV qb qo r.length cap, r)) [rowN tb i s.to_, rowN db i s.deep, rowMv mb m, rowB pb (.slice (some ⟨tb, 0, none⟩) i i) (.slice none 0 0)] W ∧ Below w2.heap.size w2 W) _ HX7.out ?_
                    clear HX7 g0 gf x0 m0 m1 hcap h1c t0 t1
                    rintro W8 ⟨hx8, hb8⟩
                    have HX8 := Lib.hid hx8
                    have HB8 := Lib.hid hb8
                    clear hx8 hb8
                    obtain ⟨v2, hv2⟩ := vs_at HI6.out.rd (qs_at HSo.out hak)
                    have hv2' := set_at_ne (p := (popV qb qo r.length cap, r)) hv2 (show a ≠ k by omega)
                    obtain ⟨p0, pf, A2, ca2, rfl⟩ := HX8.out.cell hv2'
                    have hba : Below W8.heap.size W8 (W8.alloc (.cells #[.int .i64 (s.left : Int)] 3)).drew := ((Below.refl _ W8).alloc (Nat.le_refl _) _).drew
                    have hxx : (W8.alloc (.cells #[.int .i64 (s.left : Int)] 3)).drew.cell? ⟨W8.heap.size, 0, none⟩ = some (.int .i64 (s.left : Int)) := (cell_new rfl rfl rfl : (W8.alloc (.cells #[.int .i64 (s.left : Int)] 3)).cell? ⟨W8.heap.size, 0, none⟩ = some (.int .i64 (s.left : Int)))
                    have hsz8 := HB8.out.size
                    obtain ⟨A3, c3, w9, hr, e2, ef, ho9, hb9, hq9⟩ := (HX8.out.to hba).push (Nat.le_trans hsz8 hba.size) hv2' (s.left : Int) hxx (by rw [natL_len]; have := HSo.out.len a; omega)
                    have HQ9 : Hid (QX w2.heap.size w2.heap.size (k + 1) _ _ _ ∧ Below w2.heap.size w2 _) := ⟨hq9.drop3, (HB8.out.trans ((hba.mono hsz8).trans hb9)).setCell (p := ⟨w2.heap.size, a, none⟩) (Nat.le_refl _) (.slice A3 ((natL (s.on.getD a [])).length + 1) c3)⟩
                    have HRd : Hid (((vs.set k (popV qb qo r.length cap, r)).set a (.slice A3 ((natL (s.on.getD a [])).length + 1) c3, natL (s.on.getD a []) ++ [(s.left : Int)])).map Prod.snd = qsOf i { s with on := s.on.set a (s.on.getD a [] ++ [s.left]), left := s.left + 1 }) := by
                      show _ = _
                      rw [vs_set, vs_set, HI6.out.rd, HRr.out]
                      exact qs_slip HSo.out hak
                    have HN := Lib.hid (HNx.out _ (step_slip HSl.out HNd.out HLe.out))
                    obtain ⟨m0, m1⟩ := rowMv_at (HX8.out.own.all (rowMv mb m) (by simp))
                    have ma := (rowMv_at ((HX8.out.to hba).own.all (rowMv mb m) (by simp))).2
                    have m9 := (rowMv_at (ho9.all (rowMv mb m) (by simp))).2
                    have ms := (rowMv_at (hq9.own.all (rowMv mb m) (by simp))).2
                    rw [HSl.out] at m0
                    rw [HNd.out] at m1 ma m9 ms
                    have hs0 : Hid (W8.drew.cell? ⟨mb, 1, none⟩ = some (.int .i64 (a : Int))) := m1
                    have hs1 := Lib.hid ma
                    have hs2 := Lib.hid m9
                    have hs3 := Lib.hid ms
                    have p1 := fun o => cell_al p0 o
                    have hll2 : (natL (s.on.getD a [])).length = (s.on.getD a []).length := natL_len _
                    generalize natL (s.on.getD a []) = q2 at *
                    clear hv2 hv2' hba hxx hq9 ho9 hb9 ma m9 ms HX8 HB8 HI6 hll2
                    have hi0 : (0 : Int) ≤ (a : Int) := by omega
                    have hi1 : (a : Int) < (k : Int) + 1 := by omega
                    have hi2 : (a : Int) < ((k + 1 : Nat) : Int) := by omega
                    have hi3 : a < k + 1 := by omega
                    go_upto_region 30 with fail
                    have hld : ∀ (t : TypeId) (x : Operand), ldOp t x = Op.load t x := fun _ _ => rfl
                    rw [show Op.load 22 (Operand.tmp 131) = ldOp 22 (Operand.tmp 131) from rfl]
                    go_region_held3 (fun W' => W'.cell? ⟨mb, 1, none⟩ = some (.int .i64 (a : Int)))
                      (first | (with_reducible exact hs0.out) | (with_reducible exact hs1.out) | (with_reducible exact hs2.out) | (with_reducible exact hs3.out) | fail)
                      (first | ((with_reducible refine at_world ((W8.alloc (.cells #[.int .i64 (s.left : Int)] 3)).drew) ?_); refine step_append_run (by rfl) _ _ _ _ (by rfl) _ _ (by rfl) (by rfl) hr ?_) | fail)
                    all_goals
                      clear hld hs0 hs1 hs2 hs3 hr e2 ef p0 p1 pf m0 m1
                      go_wp2
                      go_roundw
                      case rel => exact ⟨j + 1, { s with on := s.on.set a (s.on.getD a [] ++ [s.left]), left := s.left + 1 }, _, by omega, rfl, by go_num, HN.out.2.2, HN.out.1, HN.out.2.1, HQ9.out.1, HRd.out, HQ9.out.2⟩
                      case measure => simp [intOf]; omega
                · have hsf : m.slip = false := by simpa using hsl
                  rw [hsf] at m0
                  clear hsl
                  by_cases hneg : m.nd < 0
                  · have d0 : decide (m.nd < 0) = true := decide_eq_true hneg
                    have hqk := qs_last HSo.out
                    by_cases hle : s.left = i
                    · rw [range_nil (by omega)] at hqk
                      have HF : Hid (rpE (i : Int) ns l = (⟨[], []⟩, 36)) := HSt.out (step_end (Or.inr hneg) hle)
                      obtain ⟨v, hv⟩ := vs_at HI6.out.rd hqk
                      obtain ⟨g0, gf, A0, ca, rfl⟩ := HI6.out.qx.cell hv
                      rw [show (natL []).length = 0 from rfl] at g0
                      clear hv hqk HNx HSt HI6 hmk hsf hneg hle HRp HSo HDp HJ HMo
                      obtain ⟨r0, r1⟩ : _ ∧ _ := ⟨HR6.out.c0, HR6.out.c1⟩
                      have rf := HR6.out.fz
                      have hlt := lt_of_cell r0
                      have HP := Lib.hid (HR6.out.put (.slice none 0 0) (.slice none 0 0))
                      have HO := Lib.hid (HR6.out.stop HF.out)
                      clear HR6 HF 
                      go_wp2
                      exact rep_close HP.out.1 HP.out.2.1 rfl rfl HO.out

                    · have hll : s.left < i := by have := HSo.out.left; omega
                      rw [range_pop hll, natL_cons] at hqk
                      obtain ⟨r, hr⟩ : ∃ r, r = natL (List.range' (s.left + 1) (i - (s.left + 1))) := ⟨_, rfl⟩
                      rw [← hr] at hqk
                      have HRr := Lib.hid hr
                      have HN := Lib.hid (HNx.out _ (step_work hsf hneg hle))
                      have HDe : Hid (∀ W, Below w.heap.size w W → Calls Try.prog 33 #[.slice A k c, .int .i64 m.nd] W fun e w' => e = .returned (.int .i64 0) ∧ W = w') := by
                        have h1 := HD.out m.nd hmk.2.1
                        rw [show deepI ns m.nd = 0 by unfold deepI; rw [if_pos hneg]] at h1
                        exact h1
                      clear hr hle hmk HSt HNx
                      obtain ⟨v, hv⟩ := vs_at HI6.out.rd hqk
                      obtain ⟨qb, qo, cap, rfl, hcap, g0, gf, x0, hqx⟩ := HI6.out.qx.pop hv
                      have HX7 : Hid (QX w2.heap.size w2.heap.size (k + 1) _ _ _ ∧ Below w2.heap.size w2 _) := ⟨hqx, HI6.out.lo.setCell (p := ⟨w2.heap.size, k, none⟩) (Nat.le_refl _) (popV qb qo r.length cap)⟩
                      have t0 : ((r.length : Int) + 1 == 0) = false := beq_eq_false_iff_ne.2 (by omega)
                      have t1 : (r.length + 1 == 0) = false := beq_eq_false_iff_ne.2 (by omega)
                      have h1c : 1 ≤ cap := by omega
                      clear hqx hv hqk
                      go_upto_region 29 with fail
                      refine abs_world (Q := fun W => Code.wp _ _ _ _ W) (F := fun W => QX w2.heap.size w2.heap.size (k + 1) (vs.set k (popV qb qo r.length cap, r)) [rowN tb i s.to_, rowN db i s.deep, rowMv mb m, rowB pb (.slice (some ⟨tb, 0, none⟩) i i) (.slice none 0 0)] W ∧ Below w2.heap.size w2 W) _ HX7.out ?_
                      clear HX7 g0 gf x0 m0 m1 hcap h1c t0 t1
                      rintro W8 ⟨hx8, hb8⟩
                      have HX8 := Lib.hid hx8
                      have HB8 := Lib.hid hb8
                      clear hx8 hb8
                      have hxi : s.left < i := hll
                      have HRd : Hid ((vs.set k (popV qb qo r.length cap, r)).map Prod.snd = qsOf i { s with to_ := s.to_.set s.left (s.done : Int), left := s.left + 1, done := s.done + 1 }) := by
                        show _ = _
                        rw [vs_set, HI6.out.rd, HRr.out]
                        exact qs_work HSo.out
                      have m0 := (rowMv_at (HX8.out.own.all (rowMv mb m) (by simp))).1
                      rw [hsf] at m0
                      have hdn : s.done ≤ i := HSo.out.doneLe
                      have hc0 := rowN_at (HX8.out.own.all (rowN tb i s.to_) (by simp)) HSo.out.lto hxi
                      have hc1 := rowN_at (HX8.out.own.all (rowN db i s.deep) (by simp)) HSo.out.ldp hxi
                      have hf0 := rowN_frz (HX8.out.own.all (rowN tb i s.to_) (by simp)) s.left
                      have hf1 := rowN_frz (HX8.out.own.all (rowN db i s.deep) (by simp)) s.left
                      obtain ⟨hb0, hbm⟩ := HX8.out.mid'
                      have hne := HX8.out.ne
                      have hne2 : db ≠ tb := fun e => hne e.symm
                      have hgt : w2.heap.size ≤ tb := (World.ownsRow.lt (HX8.out.own.all (rowN tb i s.to_) (by simp)) tb rfl).1
                      have hgd : w2.heap.size ≤ db := (World.ownsRow.lt (HX8.out.own.all (rowN db i s.deep) (by simp)) db rfl).1
                      have HQ9 : Hid (QX w2.heap.size w2.heap.size (k + 1) _ _ _) := ((HX8.out.to (Below.refl _ W8).drew).put2 s.left (s.done : Int) 0).drop3
                      have HB9 : Hid (Below w2.heap.size w2 _) := (HB8.out.drew.setCell (p := ⟨tb, s.left, none⟩) hgt (.int .i64 (s.done : Int))).setCell (p := ⟨db, s.left, none⟩) hgd (.int .i64 0)
                      have hxI : ((s.left : Nat) : Int) < (i : Int) := by omega
                      have hx0 : (0 : Int) ≤ ((s.left : Nat) : Int) := by omega
                      rw [set_zero (HDp.out s.left (Nat.le_refl _))] at HQ9
                      generalize s.to_.getD s.left 0 = o0 at hc0
                      generalize s.deep.getD s.left 0 = o1 at hc1
                      have HBw := Lib.hid (HLo.out.trans (HB8.out.mono HLo.out.size))
                      clear HX8 HB8 hgt hgd HI6
                      clear hsf hneg hll hxi
                      go_upto_region 31 with fail
                      generalize (Value.slice (if cap = 1 then some (⟨qb, qo, none⟩ : Addr) else some ⟨qb, qo + 1, none⟩) r.length (cap - 1)) = u121
                      go_region_with (first | (go_at_call 33; refine (HDe.out _ (by first | exact HBw.out | exact HBw.out.drew)).mono ?_; rintro e w9 ⟨rfl, rfl⟩))
                      all_goals
                        go_wp2
                        go_roundw
                        case rel => exact ⟨j + 1, { s with to_ := s.to_.set s.left (s.done : Int), left := s.left + 1, done := s.done + 1 }, _, by omega, by go_num, by go_num, HN.out.2.2, HN.out.1, HN.out.2.1, HQ9.out, HRd.out, HB9.out⟩
                        case measure => simp [intOf]; omega

                  · obtain ⟨a, ha⟩ : ∃ a : Nat, m.nd = (a : Int) := ⟨m.nd.toNat, by omega⟩
                    have hak : a < k := by omega
                    rw [ha] at m1
                    have d0 : decide ((a : Int) < 0) = false := decide_eq_false (by omega)
                    have hqk := qs_at HSo.out hak
                    have hi0 : (0 : Int) ≤ (a : Int) := by omega
                    have hi1 : (a : Int) < (k : Int) + 1 := by omega
                    have hi2 : (a : Int) < ((k + 1 : Nat) : Int) := by omega
                    have hi3 : a < k + 1 := by omega
                    have HDa := Lib.hid (HD.out m.nd hmk.2.1)
                    rw [ha] at HDa
                    cases hon : s.on.getD a [] with
                    | nil =>
                      rw [hon] at hqk
                      have HF : Hid (rpE (i : Int) ns l = (⟨[], []⟩, 36)) := HSt.out (step_dry hsf ha hon)
                      obtain ⟨v, hv⟩ := vs_at HI6.out.rd hqk
                      obtain ⟨g0, gf, A0, ca, rfl⟩ := HI6.out.qx.cell hv
                      rw [show (natL []).length = 0 from rfl] at g0
                      clear hv hqk HNx HSt HI6 hmk hsf hneg hon HRp HSo HDp HJ HMo ha hak HDa
                      obtain ⟨r0, r1⟩ : _ ∧ _ := ⟨HR6.out.c0, HR6.out.c1⟩
                      have rf := HR6.out.fz
                      have hlt := lt_of_cell r0
                      have HP := Lib.hid (HR6.out.put (.slice none 0 0) (.slice none 0 0))
                      have HO := Lib.hid (HR6.out.stop HF.out)
                      clear HR6 HF 
                      go_wp2
                      exact rep_close HP.out.1 HP.out.2.1 rfl rfl HO.out

                    | cons x r0 =>
                      rw [hon, natL_cons] at hqk
                      obtain ⟨r, hr⟩ : ∃ r, r = natL r0 := ⟨_, rfl⟩
                      rw [← hr] at hqk
                      have HRr := Lib.hid hr
                      have HN := Lib.hid (HNx.out _ (step_take hsf ha hon))
                      have hxi : x < i := by
                        obtain ⟨q, hq, hy⟩ := mem_getD (l := s.on) (i := a) (x := x) (by rw [hon]; exact List.mem_cons_self)
                        have := HSo.out.low q hq x hy
                        have := HSo.out.left
                        omega
                      have HDe : Hid (∀ W, Below w.heap.size w W → Calls Try.prog 33 #[.slice A k c, .int .i64 (a : Int)] W fun e w' => e = .returned (.int .i64 (ns.getD a 0)) ∧ W = w') := by
                        have h1 := HDa.out
                        rw [show deepI ns (a : Int) = ns.getD a 0 by unfold deepI; rw [if_neg (by omega), Int.toNat_natCast]] at h1
                        exact h1
                      generalize ns.getD a 0 = dv at HN HDe
                      have HAk := Lib.hid hak
                      have HAe := Lib.hid ha
                      have HHs := Lib.hid hsf
                      clear hr hmk HSt HNx HDa hon hneg hak
                      obtain ⟨v, hv⟩ := vs_at HI6.out.rd hqk
                      obtain ⟨qb, qo, cap, rfl, hcap, g0, gf, x0, hqx⟩ := HI6.out.qx.pop hv
                      have HX7 : Hid (QX w2.heap.size w2.heap.size (k + 1) _ _ _ ∧ Below w2.heap.size w2 _) := ⟨hqx, HI6.out.lo.setCell (p := ⟨w2.heap.size, a, none⟩) (Nat.le_refl _) (popV qb qo r.length cap)⟩
                      have t0 : ((r.length : Int) + 1 == 0) = false := beq_eq_false_iff_ne.2 (by omega)
                      have t1 : (r.length + 1 == 0) = false := beq_eq_false_iff_ne.2 (by omega)
                      have h1c : 1 ≤ cap := by omega
                      clear hqx hv hqk
                      go_upto_region 29 with fail
                      refine abs_world (Q := fun W => Code.wp _ _ _ _ W) (F := fun W => QX w2.heap.size w2.heap.size (k + 1) (vs.set a (popV qb qo r.length cap, r)) [rowN tb i s.to_, rowN db i s.deep, rowMv mb m, rowB pb (.slice (some ⟨tb, 0, none⟩) i i) (.slice none 0 0)] W ∧ Below w2.heap.size w2 W) _ HX7.out ?_
                      clear HX7 g0 gf x0 m0 m1 hcap h1c t0 t1
                      rintro W8 ⟨hx8, hb8⟩
                      have HX8 := Lib.hid hx8
                      have HB8 := Lib.hid hb8
                      clear hx8 hb8
                      have HRd : Hid ((vs.set a (popV qb qo r.length cap, r)).map Prod.snd = qsOf i { s with on := s.on.set a r0, to_ := s.to_.set x (s.done : Int), deep := s.deep.set x (dv), done := s.done + 1 }) := by
                        show _ = _
                        rw [vs_set, HI6.out.rd, HRr.out]
                        exact qs_take HSo.out HAk.out
                      have m0 := (rowMv_at (HX8.out.own.all (rowMv mb m) (by simp))).1
                      rw [hsf] at m0
                      have hna : m.nd = (a : Int) := HAe.out
                      have hdn : s.done ≤ i := HSo.out.doneLe
                      have hc0 := rowN_at (HX8.out.own.all (rowN tb i s.to_) (by simp)) HSo.out.lto hxi
                      have hc1 := rowN_at (HX8.out.own.all (rowN db i s.deep) (by simp)) HSo.out.ldp hxi
                      have hf0 := rowN_frz (HX8.out.own.all (rowN tb i s.to_) (by simp)) x
                      have hf1 := rowN_frz (HX8.out.own.all (rowN db i s.deep) (by simp)) x
                      obtain ⟨hb0, hbm⟩ := HX8.out.mid'
                      have hne := HX8.out.ne
                      have hne2 : db ≠ tb := fun e => hne e.symm
                      have hgt : w2.heap.size ≤ tb := (World.ownsRow.lt (HX8.out.own.all (rowN tb i s.to_) (by simp)) tb rfl).1
                      have hgd : w2.heap.size ≤ db := (World.ownsRow.lt (HX8.out.own.all (rowN db i s.deep) (by simp)) db rfl).1
                      have HQ9 : Hid (QX w2.heap.size w2.heap.size (k + 1) _ _ _) := ((HX8.out.to (Below.refl _ W8).drew).put2 x (s.done : Int) (dv)).drop3
                      have HB9 : Hid (Below w2.heap.size w2 _) := (HB8.out.drew.setCell (p := ⟨tb, x, none⟩) hgt (.int .i64 (s.done : Int))).setCell (p := ⟨db, x, none⟩) hgd (.int .i64 (dv))
                      have hxI : ((x : Nat) : Int) < (i : Int) := by omega
                      have hx0 : (0 : Int) ≤ ((x : Nat) : Int) := by omega
                      generalize s.to_.getD x 0 = o0 at hc0
                      generalize s.deep.getD x 0 = o1 at hc1
                      have HBw := Lib.hid (HLo.out.trans (HB8.out.mono HLo.out.size))
                      clear HX8 HB8 hgt hgd HI6
                      rw [hna] at hbm
                      clear hsf hxi ha hna
                      go_upto_region 31 with fail
                      generalize (Value.slice (if cap = 1 then some (⟨qb, qo, none⟩ : Addr) else some ⟨qb, qo + 1, none⟩) r.length (cap - 1)) = u121
                      go_region_with (first | (go_at_call 33; refine (HDe.out _ (by first | exact HBw.out | exact HBw.out.drew)).mono ?_; rintro e w9 ⟨rfl, rfl⟩))
                      all_goals
                        go_wp2
                        go_roundw
                        case rel => exact ⟨j + 1, { s with on := s.on.set a r0, to_ := s.to_.set x (s.done : Int), deep := s.deep.set x (dv), done := s.done + 1 }, _, by omega, by go_num, by go_num, HN.out.2.2, HN.out.1, HN.out.2.1, HQ9.out, HRd.out, HB9.out⟩
                        case measure => simp [intOf]; omega

              case neg =>
                have hlto := HSo.out.lto
                have hldp := HSo.out.ldp
                have hE : rpE (i : Int) ns l = if s.done = i then (⟨s.to_, rpFronts i s.to_ s.deep⟩, 0) else (⟨[], []⟩, 36) := by rw [HRn.out, rp_end hlt HRp.out]
                by_cases hd : s.done < i
                · have e5 : decide ((s.done : Int) < (i : Int)) = true := decide_eq_true (by omega)
                  have e6 : decide (s.done < i) = true := decide_eq_true hd
                  have HF : Hid (rpE (i : Int) ns l = (⟨[], []⟩, 36)) := by
                    show _ = _
                    rw [hE, if_neg (by omega)]
                  have HR6 := Lib.hid (HR2.out.to HI.out.lo)
                  clear hE hd HI HSo HDp HRp HRn HR2 HOk hlto hldp
                  obtain ⟨r0, r1⟩ : _ ∧ _ := ⟨HR6.out.c0, HR6.out.c1⟩
                  have rf := HR6.out.fz
                  have hlt := lt_of_cell r0
                  have HP := Lib.hid (HR6.out.put (.slice none 0 0) (.slice none 0 0))
                  have HO := Lib.hid (HR6.out.stop HF.out)
                  clear HR6 HF 
                  go_wp2
                  exact rep_close HP.out.1 HP.out.2.1 rfl rfl HO.out

                · have hdn : s.done = i := by have := HSo.out.doneLe; omega
                  have HF : Hid (rpE (i : Int) ns l = (⟨s.to_, frA i s.to_ s.deep i⟩, 0)) := by
                    show _ = _
                    rw [hE, if_pos hdn, fr_all]
                  have e5 : decide ((s.done : Int) < (i : Int)) = false := decide_eq_false (by omega)
                  have e6 : decide (s.done < i) = false := decide_eq_false hd
                  have HG0 := Lib.hid (FrI.new HI.out)
                  have HLt := Lib.hid hlto
                  have HLd := Lib.hid hldp
                  clear hE hd hdn HI HSo HDp HRp HRn HOk hlto hldp HD
                  generalize s.to_ = to_ at HF HG0 HLt
                  generalize s.deep = deep at HF HG0 HLd
                  go_upto_region 36 with fail
                  clear hlt hj e5 e6
                  go_wp2
                  go_loopw [157] (fun s157 wo => ∃ (a : Nat) (F : Value), a ≤ i ∧ s157 = .int .i64 (a : Int) ∧ Hid (FrI w2 tb db pb i to_ deep F (frA i to_ deep a) wo)) (fun s157 _ => i - (intOf s157).toNat)
                  case atStart => exact ⟨0, _, Nat.zero_le _, rfl, HG0.out⟩
                  case round =>
                    clear HG0
                    obtain ⟨a, F, ha, rfl, HG⟩ := hrel
                    by_cases hai : a < i
                    case pos =>
                      go_wp2
                      go_loopw [21] (fun s21 wi => ∃ (b : Nat) (F : Value), a + 1 ≤ b ∧ b ≤ i ∧ s21 = .int .i64 (b : Int) ∧ Hid (FrI w2 tb db pb i to_ deep F (frA i to_ deep a ++ frB to_ deep a b) wi)) (fun s21 _ => i - (intOf s21).toNat)
                      case atStart => exact ⟨a + 1, F, Nat.le_refl _, hai, by go_num, by rw [fr_start, List.append_nil]; exact HG.out⟩
                      case round =>
                        clear HG
                        obtain ⟨b, F, hab, hb, rfl, HG⟩ := hrel
                        by_cases hbi : b < i
                        case pos =>
                          obtain ⟨g0, g1, A', c', hF⟩ := HG.out.cells
                          obtain ⟨pn, hpn⟩ : ∃ pn, pn = (frA i to_ deep a ++ frB to_ deep a b).length := ⟨_, rfl⟩
                          rw [← hpn] at hF
                          subst hF
                          have hp1 : pn ≤ 100 := by
                            rw [hpn, List.length_append]
                            have h1 := frA_len i to_ deep a
                            have h2 := frB_len to_ deep a b
                            have h3 : a * i ≤ 8 * 8 := Nat.mul_le_mul (by omega) hN
                            omega
                          have q0 := HG.out.dp HLd.out hai
                          have q1 := HG.out.dp HLd.out hbi
                          have HC : Hid (∀ W, Below wr.heap.size wr W → Calls Try.prog 34 #[.agg #[.slice (some ⟨tb, 0, none⟩) i i, .slice A' pn c'], .int .i64 (a : Int), .int .i64 (b : Int)] W fun e w' => e = .returned (.bool (chg to_ a b)) ∧ Below W.heap.size W w') := fun W hbw => by
                            have h1 := hchg_any (some ⟨tb, 0, none⟩) A' i pn c' to_ (by have := HLt.out; omega) a b (by have := HLt.out; omega) W (((HG.out.tos HLt.out).below hbw).more hbw.size)
                            rw [HLt.out] at h1
                            exact h1
                          have hst := fr_step to_ deep a b
                          unfold frP at hst
                          generalize deep.getD a 0 = da at q0 hst
                          generalize deep.getD b 0 = dbb at q1 hst
                          have HSb : Hid (∀ W', Below wr.heap.size wr W' → W'.cell? ⟨pb, 0, none⟩ = some (.slice (some ⟨tb, 0, none⟩) i i) ∧ W'.cell? ⟨pb, 1, none⟩ = some (.slice A' pn c') ∧ W'.cell? ⟨db, a, none⟩ = some (.int .i64 da) ∧ W'.cell? ⟨db, b, none⟩ = some (.int .i64 dbb) ∧ Below wr.heap.size wr W') := fun W' h => ⟨(bcell h (lt_of_cell g0) _).trans g0, (bcell h (lt_of_cell g1) _).trans g1, (bcell h (lt_of_cell q0) _).trans q0, (bcell h (lt_of_cell q1) _).trans q1, h⟩
                          have HBr : Hid (Below wr.heap.size wr wr.drew) := (Below.refl _ wr).drew
                          have hpI : (0 : Int) ≤ (a : Int) := by omega
                          have hpJ : (0 : Int) ≤ (b : Int) := by omega
                          have haI : (a : Int) < (i : Int) := by omega
                          have hbI : (b : Int) < (i : Int) := by omega
                          have HP := Lib.hid hpn
                          clear hpn
                          cases hcg : chg to_ a b with
                          | false =>
                            rw [hcg] at HC hst
                            have HSt : Hid (frB to_ deep a (b + 1) = frB to_ deep a b) := by
                              show _ = _
                              rw [hst]; rfl
                            clear hst hcg
                            go_upto_region 42 with fail
                            refine wp_region_held_drew (S := fun W' => W'.cell? ⟨pb, 0, none⟩ = some (.slice (some ⟨tb, 0, none⟩) i i) ∧ W'.cell? ⟨pb, 1, none⟩ = some (.slice A' pn c') ∧ W'.cell? ⟨db, a, none⟩ = some (.int .i64 da) ∧ W'.cell? ⟨db, b, none⟩ = some (.int .i64 dbb) ∧ Below wr.heap.size wr W') (by kernel_rfl) (HSb.out _ HBr.out) (fun hHeld => ?_)
                            refine wpAnyH_take (i := 0) (v := ?_) rfl (by kernel_rfl) (by kernel_rfl) (by kernel_rfl) (fun _ _ _ h => h) (Or.inl ⟨by rfl, ?_⟩) (by assumption) ?_
                            rotate_left
                            · (intro w hSw; (try dsimp only at hSw); go_simp; try with_reducible rfl)
                            simp only [Act.put, List.getElem_toArray, List.getElem_cons_zero, List.setIfInBounds_toArray, List.set_cons_zero, List.set_cons_succ]
                            refine wpAnyH_take (i := 1) (v := ?_) rfl (by kernel_rfl) (by kernel_rfl) (by kernel_rfl) (fun _ _ _ h => h) (Or.inl ⟨by rfl, ?_⟩) (by assumption) ?_
                            rotate_left
                            · (intro w hSw; (try dsimp only at hSw); go_simp; try with_reducible rfl)
                            simp only [Act.put, List.getElem_toArray, List.getElem_cons_zero, List.getElem_cons_succ, List.setIfInBounds_toArray, List.set_cons_zero, List.set_cons_succ]
                            refine wpAnyH_take (i := 2) (v := ?_) rfl (by kernel_rfl) (by kernel_rfl) (by kernel_rfl) (fun _ _ _ h => h) (Or.inl ⟨by rfl, ?_⟩) (by assumption) ?_
                            rotate_left
                            · (intro w hSw; (try dsimp only at hSw); go_simp; try with_reducible rfl)
                            simp only [Act.put, List.getElem_toArray, List.getElem_cons_zero, List.getElem_cons_succ, List.setIfInBounds_toArray, List.set_cons_zero, List.set_cons_succ]
                            refine wpAnyH_ready (rs := [3]) (by kernel_rfl) (by simp) ?_
                            refine AllReadyH.cons rfl (fun K hK => ?_) AllReadyH.nil
                            go_simp
                            go_at_call 34
                            have hp := limb5' hHeld
                            refine (HC.out _ hp).mono ?_
                            rintro e wd ⟨rfl, hbd⟩
                            have hbw := hp.trans (hbd.mono hp.size)
                            clear hp hbd hHeld
                            go_wp2_with fail
                            refine hK.out _ _ (HSb.out _ hbw) (fun hHeld => ?_)
                            clear hK K
                            refine wpAnyH_take (i := 4) (v := ?_) rfl (by kernel_rfl) (by kernel_rfl) (by kernel_rfl) (fun _ _ _ h => h) (Or.inl ⟨by rfl, ?_⟩) (by assumption) ?_
                            rotate_left
                            · (intro w hSw; (try dsimp only at hSw); go_simp; try with_reducible rfl)
                            simp only [Act.put, List.getElem_toArray, List.getElem_cons_zero, List.getElem_cons_succ, List.setIfInBounds_toArray, List.set_cons_zero, List.set_cons_succ]
                            refine wpAnyH_take (i := 5) (v := undef) rfl (by kernel_rfl) (by kernel_rfl) (by kernel_rfl) (fun _ _ _ h => h) (Or.inr ⟨by kernel_rfl, rfl⟩) (by assumption) ?_
                            simp only [Act.put, List.getElem_toArray, List.getElem_cons_zero, List.getElem_cons_succ, List.setIfInBounds_toArray, List.set_cons_zero, List.set_cons_succ]
                            refine wpAnyH_take (i := 6) (v := undef) rfl (by kernel_rfl) (by kernel_rfl) (by kernel_rfl) (fun _ _ _ h => h) (Or.inr ⟨by kernel_rfl, rfl⟩) (by assumption) ?_
                            simp only [Act.put, List.getElem_toArray, List.getElem_cons_zero, List.getElem_cons_succ, List.setIfInBounds_toArray, List.set_cons_zero, List.set_cons_succ]
                            refine wpAnyH_take (i := 7) (v := undef) rfl (by kernel_rfl) (by kernel_rfl) (by kernel_rfl) (fun _ _ _ h => h) (Or.inr ⟨by kernel_rfl, rfl⟩) (by assumption) ?_
                            simp only [Act.put, List.getElem_toArray, List.getElem_cons_zero, List.getElem_cons_succ, List.setIfInBounds_toArray, List.set_cons_zero, List.set_cons_succ]
                            refine wpAnyH_take (i := 8) (v := undef) rfl (by kernel_rfl) (by kernel_rfl) (by kernel_rfl) (fun _ _ _ h => h) (Or.inr ⟨by kernel_rfl, rfl⟩) (by assumption) ?_
                            simp only [Act.put, List.getElem_toArray, List.getElem_cons_zero, List.getElem_cons_succ, List.setIfInBounds_toArray, List.set_cons_zero, List.set_cons_succ]
                            refine wpAnyH_take (i := 9) (v := undef) rfl (by kernel_rfl) (by kernel_rfl) (by kernel_rfl) (fun _ _ _ h => h) (Or.inr ⟨by kernel_rfl, rfl⟩) (by assumption) ?_
                            simp only [Act.put, List.getElem_toArray, List.getElem_cons_zero, List.getElem_cons_succ, List.setIfInBounds_toArray, List.set_cons_zero, List.set_cons_succ]
                            refine wpAnyH_take (i := 10) (v := undef) rfl (by kernel_rfl) (by kernel_rfl) (by kernel_rfl) (fun _ _ _ h => h) (Or.inr ⟨by kernel_rfl, rfl⟩) (by assumption) ?_
                            simp only [Act.put, List.getElem_toArray, List.getElem_cons_zero, List.getElem_cons_succ, List.setIfInBounds_toArray, List.set_cons_zero, List.set_cons_succ]
                            refine wpAnyH_take (i := 11) (v := undef) rfl (by kernel_rfl) (by kernel_rfl) (by kernel_rfl) (fun _ _ _ h => h) (Or.inr ⟨by kernel_rfl, rfl⟩) (by assumption) ?_
                            simp only [Act.put, List.getElem_toArray, List.getElem_cons_zero, List.getElem_cons_succ, List.setIfInBounds_toArray, List.set_cons_zero, List.set_cons_succ]
                            refine wpAnyH_take (i := 12) (v := undef) rfl (by kernel_rfl) (by kernel_rfl) (by kernel_rfl) (fun _ _ _ h => h) (Or.inr ⟨by kernel_rfl, rfl⟩) (by assumption) ?_
                            simp only [Act.put, List.getElem_toArray, List.getElem_cons_zero, List.getElem_cons_succ, List.setIfInBounds_toArray, List.set_cons_zero, List.set_cons_succ]
                            refine wpAnyH_take (i := 13) (v := undef) rfl (by kernel_rfl) (by kernel_rfl) (by kernel_rfl) (fun _ _ _ h => h) (Or.inr ⟨by kernel_rfl, rfl⟩) (by assumption) ?_
                            simp only [Act.put, List.getElem_toArray, List.getElem_cons_zero, List.getElem_cons_succ, List.setIfInBounds_toArray, List.set_cons_zero, List.set_cons_succ]
                            refine wpAnyH_take (i := 14) (v := ?_) rfl (by kernel_rfl) (by kernel_rfl) (by kernel_rfl) (fun _ _ _ h => h) (Or.inl ⟨by rfl, ?_⟩) (by assumption) ?_
                            rotate_left
                            · (intro w hSw; (try dsimp only at hSw); go_simp; try with_reducible rfl)
                            simp only [Act.put, List.getElem_toArray, List.getElem_cons_zero, List.getElem_cons_succ, List.setIfInBounds_toArray, List.set_cons_zero, List.set_cons_succ]
                            refine wpAnyH_done (by kernel_rfl) ?_ _
                            clear hHeld
                            go_wp2
                            go_roundw
                            case rel => exact ⟨b + 1, _, by omega, by omega, by go_num, by rw [HSt.out]; exact HG.out.to (by assumption)⟩
                            case measure => simp [intOf]; omega
                          | true =>
                            rw [hcg] at HC hst
                            by_cases hdd : dbb < da
                            case neg =>
                              have e7 : decide (dbb < da) = false := decide_eq_false hdd
                              rw [e7] at hst
                              have HSt : Hid (frB to_ deep a (b + 1) = frB to_ deep a b) := by
                                show _ = _
                                rw [hst]; rfl
                              clear hst hcg hdd
                              go_upto_region 42 with fail
                              go_region_held3 (fun W' => W'.cell? ⟨pb, 0, none⟩ = some (.slice (some ⟨tb, 0, none⟩) i i) ∧ W'.cell? ⟨pb, 1, none⟩ = some (.slice A' pn c') ∧ W'.cell? ⟨db, a, none⟩ = some (.int .i64 da) ∧ W'.cell? ⟨db, b, none⟩ = some (.int .i64 dbb) ∧ Below wr.heap.size wr W')
                                (first | (with_reducible exact HSb.out _ HBr.out) | (with_reducible exact HSb.out _ (by assumption)) | fail)
                                (first | (go_at_call 34; have hp := limb5' (by assumption); refine (HC.out _ hp).mono ?_; rintro e wd ⟨rfl, hbd⟩; have hbw := hp.trans (hbd.mono hp.size); clear hp hbd) | fail)
                              go_wp2
                              go_roundw
                              case rel => exact ⟨b + 1, _, by omega, by omega, by go_num, by rw [HSt.out]; exact HG.out.to (by assumption)⟩
                              case measure => simp [intOf]; omega
                            case pos =>
                              have e7 : decide (dbb < da) = true := decide_eq_true hdd
                              rw [e7] at hst
                              have HSt : Hid (frB to_ deep a (b + 1) = frB to_ deep a b ++ [((a : Int), (b : Int))]) := by
                                show _ = _
                                rw [hst]; rfl
                              clear hst hcg hdd
                              go_upto_region 42 with fail
                              go_region_held3 (fun W' => W'.cell? ⟨pb, 0, none⟩ = some (.slice (some ⟨tb, 0, none⟩) i i) ∧ W'.cell? ⟨pb, 1, none⟩ = some (.slice A' pn c') ∧ W'.cell? ⟨db, a, none⟩ = some (.int .i64 da) ∧ W'.cell? ⟨db, b, none⟩ = some (.int .i64 dbb) ∧ Below wr.heap.size wr W')
                                (first | (with_reducible exact HSb.out _ HBr.out) | (with_reducible exact HSb.out _ (by assumption)) | fail)
                                (first | (go_at_call 34; have hp := limb5' (by assumption); refine (HC.out _ hp).mono ?_; rintro e wd ⟨rfl, hbd⟩; have hbw := hp.trans (hbd.mono hp.size); clear hp hbd) | fail)
                              go_upto_region 43 with fail
                              refine abs_world (Q := fun W => Code.wp _ _ _ _ W) (F := fun W => FrI w2 tb db pb i to_ deep (.slice A' pn c') (frA i to_ deep a ++ frB to_ deep a b) W) _ (HG.out.to (by assumption)) ?_
                              intro W9 hG9
                              obtain ⟨z0, z1, -⟩ := hG9.cells
                              obtain ⟨A9, c9, w9, hr9, y1, yf, hG10⟩ := hG9.push (a : Int) (b : Int) (by rw [← HP.out]; omega)
                              rw [← HP.out] at hr9 hG10
                              have HG10 := Lib.hid hG10
                              have z1' := cell_al z1 (.cells #[.int .i64 (a : Int), .int .i64 (b : Int)] 66)
                              clear hG9 hG10 HG HC HSb HBr
                              go_wp2_with (at_builtin; refine wpList_append_run _ rfl _ _ _ _ rfl _ _ (by rfl) (by rfl) hr9 ?_)
                              clear hr9 z0 z1 z1' y1 yf
                              go_roundw
                              case rel => exact ⟨b + 1, _, by omega, by omega, by go_num, by rw [HSt.out, ← List.append_assoc]; exact HG10.out⟩
                              case measure => simp [intOf]; omega
                        case neg =>
                          obtain rfl : b = i := by omega
                          go_wp2
                          go_roundw
                          case rel => exact ⟨a + 1, _, by omega, by go_num, by rw [fr_next]; exact HG.out⟩
                          case measure => simp [intOf]; omega
                    case neg =>
                      obtain rfl : a = i := by omega
                      obtain ⟨z0, z1, A', c', hF⟩ := HG.out.cells
                      obtain ⟨pn, hpn⟩ : ∃ pn, pn = (frA a to_ deep a).length := ⟨_, rfl⟩
                      rw [← hpn] at hF
                      subst hF
                      clear hpn
                      have HR6 := Lib.hid (HR2.out.to HG.out.lo)
                      obtain ⟨r0, r1⟩ : _ ∧ _ := ⟨HR6.out.c0, HR6.out.c1⟩
                      have rf := HR6.out.fz
                      have hlt6 := lt_of_cell r0
                      have HP := Lib.hid (HR6.out.put (.slice (some ⟨tb, 0, none⟩) a a) (.slice A' pn c'))
                      have HO := Lib.hid (fr_out HG.out HR2.out HLt.out HF.out)
                      clear HR6 HG HF HR2
                      go_wp2
                      exact rep_close HP.out.1 HP.out.2.1 rfl rfl HO.out
end Go.Proofs.Ytodjkifcbgmckaa
