/- Layer 31: Compile, walked. -/
import Derived.Test.YtbnddpknejgmhaaGreatKP20
import Derived.Deep.AppendLies
import Derived.Laws.AppendOwnNone
namespace Go.Proofs.YtbnddpknejgmhaaGreat
open Go.RowKit Go.Shelf
set_option maxRecDepth 100000

def compPost (start : Int) (p : List RowC) (w : World) (e : Ending) (w' : World) : Prop :=
  ∃ A c, e = .returned (.tuple #[.slice A (compO start p).length c, .int .i64 (compE start p)]) ∧ SlX w' w'.heap.size A (compO start p) ∧ (compO start p).length ≤ c ∧ Below w.heap.size w w'
theorem compPost.err {start : Int} {p : List RowC} {w w' : World} {x : Int} (h : compE start p = x) (hx : x ≠ 0) (hb : Below w.heap.size w w') : compPost start p w (.returned (.tuple #[.slice none 0 0, .int .i64 x])) w' := by
  have e : compO start p = [] := by unfold compO; rw [if_neg (by rw [h]; exact hx)]
  unfold compPost
  rw [e, h]
  exact ⟨none, 0, rfl, SlX.nil, Nat.le_refl _, hb⟩
set_option maxHeartbeats 4000000 in
theorem compile_any (start : Int) (A : Option Addr) (c : Nat) (p : List RowC) (hw : RowsWf p) (hT : (∀ r ∈ p, r.1 = false) ∨ TurnC) (w : World) (hs : SlC w w.heap.size A p) :
    Calls Tryz.prog 8 #[.agg #[.int .i64 start, .slice A p.length c]] w fun e w' => compPost start p w e w' := by
  have hbw0 : Below w.heap.size w (w.alloc (.cells #[.int .i64 start, .slice A p.length c] 24)) := (Below.refl _ w).alloc (Nat.le_refl _) _
  have HCk := Lib.hid (ccheck_any start A c p hw _ ((hs.below hbw0).more hbw0.size))
  have HB0 := Lib.hid hbw0
  by_cases he : chartE start p = 0
  case neg =>
    have HF : Hid (compE start p = chartE start p) := by unfold Hid compE; rw [if_pos he]
    have HN := Lib.hid he
    have heb : (chartE start p != 0) = true := by simp [he]
    have heb2 : (chartE start p == 0) = false := by simp [he]
    generalize chartE start p = x at HCk HF HN heb heb2
    clear he hs hw hbw0
    go_enter Tryz.func8, Tryz.ntmps8
    go_wp2_with (go_at_call 23; refine HCk.out.mono ?_; rintro e w1 ⟨rfl, hb1⟩)
    go_ret2
    exact compPost.err HF.out HN.out (HB0.out.trans (hb1.mono (by simp)))
  case pos =>
    rw [he] at HCk
    have hz := chart_zero he
    have hal := err_rows hz.2.2
    have hcs0 : ∀ w1 : World, Below (w.heap.size + 1) (w.alloc (.cells #[.int .i64 start, .slice A p.length c] 24)) w1 → w1.cell? ⟨w.heap.size, 0, none⟩ = some (.int .i64 start) ∧ w1.cell? ⟨w.heap.size, 1, none⟩ = some (.slice A p.length c) := fun w1 hb =>
      ⟨(bcell hb (by omega) _).trans (cell_new rfl rfl rfl), (bcell hb (by omega) _).trans (cell_new rfl rfl rfl)⟩
    have HCS := Lib.hid hcs0
    have HPl := Lib.hid (fun (w1 : World) (hb : Below w.heap.size w w1) => plain_any start A c p (by have := hz.1; omega) (fun r hr => by have := (all_zero (hal r hr)).1; omega) w1 ((hs.below hb).more hb.size))
    cases hp : plainB start p with
    | false =>
      have HF : Hid (compE start p = 2) := by unfold Hid compE; rw [if_neg (by simpa using he), if_pos hp]
      rw [hp] at HPl
      clear he hs hw hbw0 hz hal hcs0 hp
      go_enter Tryz.func8, Tryz.ntmps8
      go_wp2_with (first
        | (go_at_call 23; refine HCk.out.mono ?_; rintro e w1 ⟨rfl, hb1⟩
           obtain ⟨c0, c1⟩ := HCS.out w1 (hb1.mono (by simp))
           have hbw1 := HB0.out.trans (hb1.mono (by simp)))
        | (go_at_call 24; refine (HPl.out _ hbw1).mono ?_; rintro e w2 ⟨rfl, hb2⟩))
      go_ret2
      exact compPost.err HF.out (by decide) (hbw1.trans (hb2.mono hbw1.size))
    | true =>
      obtain ⟨hst, hkind⟩ := plain_kind hp
      have hlen := plain_len hz.2.2 hkind
      obtain ⟨n, rfl⟩ := Int.eq_ofNat_of_zero_le hz.2.1.1
      have hn : n ≤ 101 := by omega
      have hpl := hz.1
      have HE : Hid (compE (n : Int) p = if 2000 < (compL (n : Int) p).length then 4 else 0) := by unfold Hid compE; rw [if_neg (by simpa using he), if_neg (by rw [hp]; simp)]
      have HL : Hid (compL (n : Int) p = (rowsRun 0 p (headL n, List.replicate n 0)).1) := by unfold Hid compL; rw [Int.toNat_natCast]
      have HFc := Lib.hid (fun (k : Nat) (r : RowC) (hr : p[k]? = some r) (w1 : World) (hb : Below w.heap.size w w1) => face_any (n : Int) A c p hw he k r hr (hT.imp (fun h => h r (List.mem_of_getElem? hr)) id) w1 ((hs.below hb).more hb.size))
      have HLn : Hid (∀ r ∈ p, (faceL r).length = n) := fun r hr => by rw [face_len]; have := hlen r hr; omega
      have HKd : Hid (∀ r ∈ p, ∀ s ∈ faceL r, s.kind = 1 ∨ s.kind = 8) := fun r hr => face_kind (hkind r hr)
      rw [hp] at HPl
      obtain ⟨i0, hi, hz0, hz1, hz2⟩ := info_parts info_ins
      obtain ⟨i1, hi', hz0', hz1', hz2'⟩ := info_parts info_u8
      clear he hs hw hbw0 hz hal hcs0 hp hst hkind hlen hT
      go_enter Tryz.func8, Tryz.ntmps8
      go_upto_region 7 with (first
        | (go_at_call 23; refine HCk.out.mono ?_; rintro e w1 ⟨rfl, hb1⟩
           obtain ⟨c0, c1⟩ := HCS.out w1 (hb1.mono (by simp))
           have hbw1 := HB0.out.trans (hb1.mono (by simp)))
        | (go_at_call 24; refine (HPl.out _ hbw1).mono ?_; rintro e w2 ⟨rfl, hb2⟩
           have hbw2 := hbw1.trans (hb2.mono hbw1.size)
           obtain ⟨d0, d1⟩ := HCS.out w2 ((hb1.mono (by simp)).trans (hb2.mono (by have := hb1.size; simpa using this)))))
      refine abs_world (Q := fun W => Code.wp _ _ _ _ W) (F := fun W => Below w.heap.size w W ∧ W.cell? ⟨w.heap.size, 0, none⟩ = some (.int .i64 (n : Int)) ∧ W.cell? ⟨w.heap.size, 1, none⟩ = some (.slice A p.length c) ∧ W.ownsRow (w.heap.size + 1) 64 7 (.slice (some ⟨w2.heap.size, 0, none⟩) 1 1) (headL 0).length ((headL 0).map Ins.cells).flatten) _ ?_ ?_
      · have hlt := lt_of_cell d0
        exact ⟨hbw2.alloc hbw2.size _, (bcell ((Below.refl _ _).alloc (Nat.le_refl _) _) hlt _).trans d0, (bcell ((Below.refl _ _).alloc (Nat.le_refl _) _) hlt _).trans d1, World.ownsRow_lit w2 _ 1 (by omega) (by decide) rfl⟩
      rintro W ⟨hbW, e0, e1, hown0⟩
      clear c0 c1 d0 d1 hbw1 hb1 hb2 hbw2 HB0 HCk HPl HCS
      go_wp2
      go_loopw [5, 28] (fun s5 s28 wr => ∃ (k : Nat) (vo : Value), k ≤ n ∧ s28 = .int .i64 k ∧ vo = s5 ∧ wr.ownsRow (w.heap.size + 1) 64 7 vo (headL k).length ((headL k).map Ins.cells).flatten ∧ Below w.heap.size w wr ∧ wr.cell? ⟨w.heap.size, 0, none⟩ = some (.int .i64 (n : Int)) ∧ wr.cell? ⟨w.heap.size, 1, none⟩ = some (.slice A p.length c)) (fun _ s28 _ => n - (intOf s28).toNat)
      case atStart => exact ⟨0, _, Nat.zero_le _, rfl, rfl, hown0, hbW, e0, e1⟩
      case round =>
        obtain ⟨k, vo, hk, rfl, rfl, hown, hbw, f0, f1⟩ := hrel
        clear hown0 e0 e1 hbW
        have hlt0 := lt_of_cell f0
        by_cases hlt : k < n
        · have HL1 : Hid ((headL k).length = k + 1) := by simp [Hid, headL]
          have HSn : Hid (headL (k + 1) = headL k ++ [knitI 3 true 0 (k : Int)]) := by simp [Hid, headL, List.range_succ]
          have HOw := Lib.hid hown
          have HF0 := Lib.hid f0
          have HF1 := Lib.hid f1
          clear hown f0 f1
          go_wp2_with (at_builtin; refine wpList_append_own _ rfl _ _ 28 rfl (w.heap.size + 1) 64 i0 (.agg #[.int .u8 0, .bool false, .int .u8 0, .int .i64 0, .int .i64 0, .int .i64 0, .int .i64 0]) 7 40 Tryz.underlying28 hi hz0 hz1 hz2 rfl (by decide) _ _ _ rfl (HOw.out.alloc _) ⟨wr.heap.size, 0, none⟩ 1 1 (knitI 3 true 0 (k : Int)).cells rfl rfl (news_new wr _ _) (one7' _) (by rw [HL1.out]; unfold maxLen; omega) (by rw [HL1.out]; omega) (by simp; omega) ?_; intro v' w4 hown4 hgrow _; have HO4 := Lib.hid hown4; have HG4 := Lib.hid hgrow; clear hown4 hgrow)
          go_roundw
          case rel =>
            have hB : Below (w.heap.size + 1) wr w4 := ((Below.refl _ wr).alloc (by omega) _).grown HG4.out (by simp; omega) (fun g e => (HOw.out.lt g e).1)
            refine ⟨k + 1, v', by omega, by go_num, rfl, ?_, hbw.trans (hB.mono (by omega)), (bcell hB (by omega) _).trans HF0.out, (bcell hB (by omega) _).trans HF1.out⟩
            rw [HSn.out, flat_snoc, List.length_append]
            exact HO4.out
          case measure => simp [intOf]; omega
        · obtain rfl : k = n := by omega
          obtain ⟨w3, hmr, hob, hgb⟩ := run_make_full (P := Tryz.prog) wr (w.heap.size + 1) 71 5 i1 (.int .u8 0) 1 Tryz.underlying71 hi' hz0' hz1' .i64 .i64 k (by rw [hz2']; omega) (by unfold maxLen; omega) (by omega)
          have hB3 : Below wr.heap.size wr w3 := (Below.refl _ wr).grown hgb (Nat.le_refl _) (fun k e => by cases e)
          have hC0 : CompAt w wr.heap.size (k : Int) A p.length c vo (headL k) (List.replicate k 0) w3 := by
            refine ⟨hbw.trans (hB3.mono hbw.size), (bcell hB3 hlt0 _).trans f0, (bcell hB3 hlt0 _).trans f1, own_below hown hB3 (Nat.le_refl _), ?_, fun e => by have := (hown.lt _ e).2; omega⟩
            have e : (madeCells (Value.int .u8 0).cells (k * 1)).toList = bedV (List.replicate k 0) := by
              rw [Nat.mul_one]
              exact (toList_madeCells_one _ _).trans (by unfold bedV; rw [List.map_replicate])
            rw [e] at hob
            rw [List.length_replicate]
            exact hob
          have HC0 := Lib.hid hC0
          obtain ⟨bb, hbb⟩ : ∃ bb, bb = wr.heap.size := ⟨_, rfl⟩
          rw [← hbb] at hmr HC0
          have g0 := hC0.c0
          have g1 := hC0.c1
          clear hob hgb hB3 hC0 hown hbb
          go_wp2
          clear f0 f1 g0 g1
          go_loopw [5, 43] (fun s5 s43 wr => ∃ (i : Nat) (vo : Value) (O : List Ins) (B : List Int), i ≤ p.length ∧ s43 = .int .i64 i ∧ vo = s5 ∧ Hid (CompAt w bb (k : Int) A p.length c vo O B wr) ∧ B.length = k ∧ O.length ≤ 300 + 202 * i ∧ Hid (rowsRun 0 p (headL k, List.replicate k 0) = rowsRun i (p.drop i) (O, B))) (fun _ s43 _ => p.length - (intOf s43).toNat)
          case atStart => exact ⟨0, _, _, _, Nat.zero_le _, rfl, rfl, HC0, by simp, by simp [headL]; omega, rfl⟩
          case round =>
            obtain ⟨i, vo, O, B, hi2, rfl, rfl, HC, hBl, hOl, HRun⟩ := hrel
            have hc0 := HC.out.c0
            have hc1 := HC.out.c1
            by_cases hlt : i < p.length
            · have hr : p[i]? = some p[i] := List.getElem?_eq_getElem hlt
              generalize p[i] = r at hr
              have HRs : Hid (rowsRun 0 p (headL k, List.replicate k 0) = rowsRun (i + 1) (p.drop (i + 1)) ((rowRunC (decide (i % 2 = 1)) 0 (faceL r) (O, [], B)).1 ++ (if i % 2 = 0 then (rowRunC (decide (i % 2 = 1)) 0 (faceL r) (O, [], B)).2.1.reverse else (rowRunC (decide (i % 2 = 1)) 0 (faceL r) (O, [], B)).2.1), (rowRunC (decide (i % 2 = 1)) 0 (faceL r) (O, [], B)).2.2)) := by
                unfold Hid; rw [HRun.out, rows_step hr]
              have hfl := HLn.out r (List.mem_of_getElem? hr)
              have HFace := Lib.hid (HFc.out i r hr wr HC.out.below)
              have HKr := Lib.hid (HKd.out r (List.mem_of_getElem? hr))
              generalize faceL r = fc at HRs hfl HFace HKr
              obtain ⟨qr, hqr⟩ : ∃ qr, qr = decide (i % 2 = 1) := ⟨_, rfl⟩
              rw [← hqr] at HRs
              have HQ := Lib.hid hqr
              clear hqr
              unfold stcOut2 at HFace
              rw [hfl] at HFace
              clear hr HRun
              go_wp2_with (go_at_call 25; refine HFace.out.mono ?_; rintro e w1 ⟨a2, c2, rfl, hT2, hb2, hf2⟩; have HT2 := Lib.hid hT2; have HF2 := Lib.hid hf2; have HB2 := Lib.hid hb2; clear hT2 hf2 hb2)
              have HC1 := Lib.hid (HC.out.to HB2.out)
              have HFA : Hid (FaceAt bb vo (.slice none 0 0) a2 fc w1) := ⟨HT2.out, fun hne ad had => by
                have h1 := HF2.out hne ad had
                have h2 := (HC.out.bed.lt bb rfl).2
                refine ⟨by omega, fun e => ?_, fun e => by cases e⟩
                have := (HC.out.own.lt _ e).2
                omega⟩
              have HRA : Hid (RowAt w bb vo (.slice none 0 0) [] w1) := ⟨World.ownsRow_nil _ _ _ _, (fun e => by cases e), Or.inl rfl⟩
              clear hc0 hc1 HC HT2 HF2 HB2
              go_loopw [5, 11, 54] (fun s5 s11 s54 wr => ∃ (q : Nat) (vo vr : Value) (O1 R : List Ins) (B1 : List Int), q ≤ k ∧ s54 = .int .i64 q ∧ vo = s5 ∧ vr = s11 ∧ Hid (CompAt w bb (k : Int) A p.length c vo O1 B1 wr) ∧ Hid (RowAt w bb vo vr R wr) ∧ Hid (FaceAt bb vo vr a2 fc wr) ∧ B1.length = k ∧ O1.length ≤ 300 + 202 * i + q ∧ R.length = q ∧ (q = 0 → vr = .slice none 0 0) ∧
                Hid (rowRunC (qr) 0 fc (O, [], B) = rowRunC (qr) q (fc.drop q) (O1, R, B1))) (fun _ _ s54 _ => k - (intOf s54).toNat)
              case atStart => exact ⟨0, _, _, O, [], B, Nat.zero_le _, rfl, rfl, rfl, HC1, HRA, HFA, hBl, by omega, rfl, (fun _ => rfl), rfl⟩
              case round =>
                obtain ⟨q, vo, vr, O1, R, B1, hq, rfl, rfl, rfl, HC, HR, HF, hB1, hO1, hR1, hvr, HRow⟩ := hrel
                by_cases hqk : q < k
                case neg =>
                  obtain rfl : k = q := by omega
                  have hrow : rowRunC qr 0 fc (O, [], B) = (O1, R, B1) := by rw [HRow.out, List.drop_of_length_le (by omega)]; rfl
                  have HR2 := HRs.out
                  rw [hrow] at HR2
                  have hi1 : i % 2 = 0 ∨ i % 2 = 1 := by omega
                  have hand := and_small i (by omega)
                  clear HRow hrow HF hqk
                  by_cases hk0 : k = 0
                  case pos =>
                    have hnil := hvr hk0
                    have hRn : R = [] := List.length_eq_zero_iff.1 (by omega)
                    subst hRn
                    have HR3 : Hid (rowsRun 0 p (headL k, List.replicate k 0) = rowsRun (i + 1) (p.drop (i + 1)) (O1, B1)) := by
                      unfold Hid; rw [HR2]; congr 2; split <;> simp
                    have HOwn := Lib.hid HC.out.own
                    subst hnil
                    clear HR2 hvr HR hk0
                    rcases hi1 with hi1 | hi1
                    all_goals
                      rw [hi1] at hand
                      clear hi1
                      go_wp2_with (first
                        | (go_at_call 26; refine (reverse_none _).mono ?_; rintro e w' ⟨rfl, rfl⟩)
                        | (at_builtin; refine wpList_append_own_none rfl _ _ 28 rfl (w.heap.size + 1) 64 i0 7 Tryz.underlying28 hi vo O1.length (O1.map Ins.cells).flatten rfl HOwn.out rfl ?_))
                      go_roundw
                      case rel =>
                        exact ⟨i + 1, vo, O1, B1, by omega, by go_num, rfl, HC, hB1, by omega, HR3⟩
                      case measure => simp [intOf]; omega
                  case neg =>
                    obtain ⟨g, cap, rfl⟩ : ∃ g cap, vr = .slice (some ⟨g, 0, none⟩) k cap := by
                      rcases HR.out.own.2 with ⟨_, h⟩ | ⟨g, cap, cur, h, _⟩
                      · omega
                      · exact ⟨g, cap, by rw [h, hR1]⟩
                    have hkp : 0 < k := by omega
                    have hfl2 : (R.map Ins.cells).flatten.length = k * 7 := by rw [flat_len (cells7 R), List.length_map, hR1]
                    have hfl3 : (R.reverse.map Ins.cells).flatten.length = k * 7 := by rw [flat_len (cells7 R.reverse), List.length_map, List.length_reverse, hR1]
                    have hownR := HR.out.own
                    rw [hR1] at hownR
                    have HOr := Lib.hid hownR
                    have HFl := Lib.hid (show _ ∧ _ from ⟨hfl2, hfl3⟩)
                    have HR3 := Lib.hid HR2
                    clear HR2 hvr hfl2 hfl3 hownR hk0
                    rcases hi1 with hi1 | hi1
                    case inl =>
                      rw [hi1] at hand
                      have HI := Lib.hid hi1
                      have HRev := Lib.hid (reverse_any g k cap (w.heap.size + 1) 64 R hR1.symm (by omega) wr HOr.out)
                      clear hi1
                      go_wp2_with (first
                        | (go_at_call 26; refine HRev.out.mono ?_; rintro e w5 ⟨rfl, hsl5, hg5⟩; have HC5 := Lib.hid (HC.out.other HR.out hg5); have HN5 := Lib.hid (SlS.flat (cells7 R.reverse) hsl5); clear hsl5 hg5)
                        | (at_builtin; refine wpList_append_lies _ rfl _ _ 28 rfl (w.heap.size + 1) 64 i0 (.agg #[.int .u8 0, .bool false, .int .u8 0, .int .i64 0, .int .i64 0, .int .i64 0, .int .i64 0]) 7 40 Tryz.underlying28 hi hz0 hz1 hz2 rfl (by decide) vo O1.length (O1.map Ins.cells).flatten rfl HC5.out.own ⟨g, 0, none⟩ k cap (R.reverse.map Ins.cells).flatten rfl HFl.out.2 HN5.out (one7 R.reverse) hkp (by unfold maxLen; omega) (by omega) (by have := lt_of_cell HC5.out.c0; omega) w5.heap.size rfl ?_; intro g4 cap4 w4 hown4 hgrow4 hor4 _
                           have HC4 : Hid (CompAt w bb (k : Int) A p.length c (.slice (some ⟨g4, 0, none⟩) (O1.length + k) cap4) (O1 ++ R.reverse) B1 w4) := HC5.out.grow (by rw [List.length_append, List.length_reverse, hR1, List.map_append, List.flatten_append]; exact hown4) hgrow4 (fun g' e => by cases e; rcases hor4 with h | h; exact Or.inl h; exact Or.inr (by show w5.heap.size ≤ g4; omega))
                           clear hown4 hgrow4 hor4))
                      go_roundw
                      case rel =>
                        refine ⟨i + 1, .slice (some ⟨g4, 0, none⟩) (O1.length + k) cap4, O1 ++ R.reverse, B1, by omega, by go_num, rfl, HC4, hB1, by rw [List.length_append, List.length_reverse]; omega, ?_⟩
                        have := HR3.out
                        rw [if_pos HI.out] at this
                        exact this
                      case measure => simp [intOf]; omega
                    case inr =>
                      rw [hi1] at hand
                      have HI := Lib.hid hi1
                      have HN5 := Lib.hid (HOr.out.cells (g := g) rfl)
                      clear hi1
                      go_wp2_with (at_builtin; refine wpList_append_lies _ rfl _ _ 28 rfl (w.heap.size + 1) 64 i0 (.agg #[.int .u8 0, .bool false, .int .u8 0, .int .i64 0, .int .i64 0, .int .i64 0, .int .i64 0]) 7 40 Tryz.underlying28 hi hz0 hz1 hz2 rfl (by decide) vo O1.length (O1.map Ins.cells).flatten rfl HC.out.own ⟨g, 0, none⟩ k cap (R.map Ins.cells).flatten rfl HFl.out.1 HN5.out (one7 R) hkp (by unfold maxLen; omega) (by omega) (by have := lt_of_cell HC.out.c0; omega) wr.heap.size rfl ?_; intro g4 cap4 w4 hown4 hgrow4 hor4 _
                                   have HC4 : Hid (CompAt w bb (k : Int) A p.length c (.slice (some ⟨g4, 0, none⟩) (O1.length + k) cap4) (O1 ++ R) B1 w4) := HC.out.grow (by rw [List.length_append, hR1, List.map_append, List.flatten_append]; exact hown4) hgrow4 (fun g' e => by cases e; rcases hor4 with h | h; exact Or.inl h; exact Or.inr (by show wr.heap.size ≤ g4; omega))
                                   clear hown4 hgrow4 hor4)
                      go_roundw
                      case rel =>
                        refine ⟨i + 1, .slice (some ⟨g4, 0, none⟩) (O1.length + k) cap4, O1 ++ R, B1, by omega, by go_num, rfl, HC4, hB1, by rw [List.length_append]; omega, ?_⟩
                        have := HR3.out
                        rw [if_neg (by rw [HI.out]; decide)] at this
                        exact this
                      case measure => simp [intOf]; omega
                case pos =>
                obtain ⟨b, off, s, rfl, hB, hs, hcs⟩ := HF.out.sl.at_ (k := q) (by omega)
                obtain ⟨c0, c1, c2, c3⟩ := hcs
                have hkd := HKr.out s (List.mem_of_getElem? hs)
                have HRow2 : Hid (rowRunC (qr) 0 fc (O, [], B) = rowRunC (qr) (q + 1) (fc.drop (q + 1)) (stepOC s q O1 B1, stepRw (qr) s q R B1, stepB s q B1)) := by
                  unfold Hid; rw [HRow.out, row_step hs]
                clear hs HRow hvr
                go_upto_region 21 with (fail)
                refine abs_world (Q := fun W => Code.wp _ _ _ _ W) (F := fun W => CompAt w bb (k : Int) A p.length c vo O1 B1 W ∧ RowAt w bb vo vr R W ∧ FaceAt bb vo vr (some ⟨b, off, none⟩) fc W ∧ StcAt W wr.heap.size 0 s ∧ wr.heap.size < W.heap.size) _ ?_ ?_
                · exact ⟨HC.out.alloc _, HR.out.to ((Below.refl _ _).alloc (Nat.le_refl _) _), HF.out.to ((Below.refl _ _).alloc (Nat.le_refl _) _), ⟨cell_new rfl rfl rfl, cell_new rfl rfl rfl, cell_new rfl rfl rfl, cell_new rfl rfl rfl⟩, by simp⟩
                rintro W ⟨hCW, hRW, hFW, ⟨d0, d1, d2, d3⟩, hWz⟩
                clear HC HR HF c0 c1 c2 c3
                have hbd := hCW.bedAt (k := q) (by omega)
                have HC := Lib.hid hCW
                have HR := Lib.hid hRW
                have HF := Lib.hid hFW
                have HK := Lib.hid (fun W2 (hb : Below W.heap.size W W2) => (bcell hb (lt_of_cell hbd) _).trans hbd)
                clear hCW hRW hFW
                simp only [Nat.zero_add] at d1 d2 d3
                rcases hkd with hkd | hkd
                case inl =>
                  clear HK
                  have hand : (bits BinOp.and IntKind.i64 (i : Int) 1 == 1) = qr := by
                    rw [HQ.out, and_small i (by omega), Bool.eq_iff_iff]; simp; omega
                  cases hpu : s.purl with
                  | true =>
                    by_cases hbz : B1.getD q 0 = 1
                    case pos =>
                      have HSt : Hid (stepOC s q O1 B1 = O1 ∧ stepB s q B1 = B1.set q 1 ∧ stepRw qr s q R B1 = R ++ [knitI 3 qr 1 q]) := by
                        unfold Hid stepRw stepB stepOC wantS; rw [if_neg (fun h => h.2 (by rw [hbz, hpu]; rfl)), if_pos hkd, if_pos hkd, hpu]; exact ⟨rfl, rfl, by simp [List.getD, hB1, hqk]⟩
                      rw [hbz] at hbd
                      have hst : ∀ v, (W.setCell ⟨bb, q, none⟩ v).cell? ⟨bb, q, none⟩ = some v := fun v => World.cell?_setCell_same' _ _ _ (by rw [hbd]; rfl)
                      have hfz := HC.out.bed.frozenAt q
                      have HS1 := Lib.hid (bed_set q 1 HC.out HR.out HF.out)
                      rw [hkd] at d0
                      rw [hpu] at d1
                      clear hkd hpu hbz
                      go_wp2_with (at_builtin; refine wpList_append_lies _ rfl _ _ 28 rfl (w.heap.size + 1) 64 i0 (.agg #[.int .u8 0, .bool false, .int .u8 0, .int .i64 0, .int .i64 0, .int .i64 0, .int .i64 0]) 7 40 Tryz.underlying28 hi hz0 hz1 hz2 rfl (by decide) vr R.length (R.map Ins.cells).flatten rfl (HS1.out.2.1.own.alloc _) ⟨W.heap.size, 0, none⟩ 1 1 (knitI 3 qr 1 (q : Int)).cells rfl rfl (news_new' (W.setCell ⟨bb, q, none⟩ (.int .u8 1)) _ _ W.heap.size (by simp)) (one7' _) (by decide) (by unfold maxLen; omega) (by omega) (by have := HS1.out.1.below.size; simp at this; simp; omega) (W.heap.size + 1) (by simp) ?_; intro g cap w5 hown5 hgrow5 hor5 _; have HP := Lib.hid (row_pushed HS1.out.1 HS1.out.2.1 HS1.out.2.2 hown5 hgrow5 (hor5.imp id (fun e => by simpa using e))); clear hown5 hgrow5 hor5)
                      go_roundw
                      case rel =>
                        refine ⟨q + 1, _, .slice (some ⟨g, 0, none⟩) (R.length + 1) cap, O1, R ++ [knitI 3 qr 1 (q : Int)], B1.set q 1, by omega, by go_num, rfl, by rw [hR1], HP.out.1, HP.out.2.1, HP.out.2.2, by rw [List.length_set]; exact hB1, by omega, by rw [List.length_append, hR1]; rfl, (fun h => by omega), ?_⟩
                        have := HRow2.out
                        rw [HSt.out.1, HSt.out.2.1, HSt.out.2.2] at this
                        exact this
                      case measure => simp [intOf]; omega
                    case neg =>
                      have HSt : Hid (stepOC s q O1 B1 = O1 ++ [xferI (B1.getD q 0) q] ∧ stepB s q B1 = B1.set q 1 ∧ stepRw qr s q R B1 = R ++ [knitI 3 qr 1 q]) := by
                        unfold Hid stepRw stepB stepOC wantS; rw [if_pos ⟨hkd, by rw [hpu]; simpa using hbz⟩, if_pos hkd, if_pos hkd, hpu]; exact ⟨rfl, rfl, by simp [List.getD, hB1, hqk]⟩
                      rw [hkd] at d0
                      rw [hpu] at d1
                      generalize B1.getD q 0 = bq at hbd HSt hbz
                      have hbn : (bq != 1) = true := by simp [hbz]
                      have hbn2 : (bq == 1) = false := by simp [hbz]
                      clear hkd hpu hbz
                      go_wp2_with (first
                        | (at_builtin; refine wpList_append_lies _ rfl _ _ 28 rfl (w.heap.size + 1) 64 i0 (.agg #[.int .u8 0, .bool false, .int .u8 0, .int .i64 0, .int .i64 0, .int .i64 0, .int .i64 0]) 7 40 Tryz.underlying28 hi hz0 hz1 hz2 rfl (by decide) vo O1.length (O1.map Ins.cells).flatten rfl (HC.out.own.alloc _) ⟨W.heap.size, 0, none⟩ 1 1 (xferI bq (q : Int)).cells rfl rfl (news_new W _ _) (one7' _) (by decide) (by unfold maxLen; omega) (by omega) (by have := HC.out.below.size; simp; omega) (W.heap.size + 1) (by simp) ?_; intro g4 cap4 w4 hown4 hgrow4 hor4 _; have HP1 := Lib.hid (out_pushed HC.out HR.out HF.out hown4 hgrow4 hor4); have hbd4 := HP1.out.1.bedAt (k := q) (by omega); have hfz4 := HP1.out.1.bed.frozenAt q; have hst4 : ∀ v, (w4.setCell ⟨bb, q, none⟩ v).cell? ⟨bb, q, none⟩ = some v := (fun v => World.cell?_setCell_same' _ _ _ (by rw [hbd4]; rfl)); have HS4 := Lib.hid (bed_set q 1 HP1.out.1 HP1.out.2.1 HP1.out.2.2); clear hown4 hgrow4 hor4)
                        | (at_builtin; refine wpList_append_lies _ rfl _ _ 28 rfl (w.heap.size + 1) 64 i0 (.agg #[.int .u8 0, .bool false, .int .u8 0, .int .i64 0, .int .i64 0, .int .i64 0, .int .i64 0]) 7 40 Tryz.underlying28 hi hz0 hz1 hz2 rfl (by decide) vr R.length (R.map Ins.cells).flatten rfl (HS4.out.2.1.own.alloc _) ⟨w4.heap.size, 0, none⟩ 1 1 (knitI 3 qr 1 (q : Int)).cells rfl rfl (news_new' (w4.setCell ⟨bb, q, none⟩ (.int .u8 1)) _ _ w4.heap.size (by simp)) (one7' _) (by decide) (by unfold maxLen; omega) (by omega) (by have := HS4.out.1.below.size; simp at this; simp; omega) (w4.heap.size + 1) (by simp) ?_; intro g cap w5 hown5 hgrow5 hor5 _; have HP := Lib.hid (row_pushed HS4.out.1 HS4.out.2.1 HS4.out.2.2 hown5 hgrow5 (hor5.imp id (fun e => by simpa using e))); clear hown5 hgrow5 hor5))
                      go_roundw
                      case rel =>
                        refine ⟨q + 1, .slice (some ⟨g4, 0, none⟩) (O1.length + 1) cap4, .slice (some ⟨g, 0, none⟩) (R.length + 1) cap, O1 ++ [xferI bq q], R ++ [knitI 3 qr 1 (q : Int)], B1.set q 1, by omega, by go_num, rfl, by rw [hR1], HP.out.1, HP.out.2.1, HP.out.2.2, by rw [List.length_set]; exact hB1, by rw [List.length_append]; simp; omega, by rw [List.length_append, hR1]; rfl, (fun h => by omega), ?_⟩
                        have := HRow2.out
                        rw [HSt.out.1, HSt.out.2.1, HSt.out.2.2] at this
                        exact this
                      case measure => simp [intOf]; omega
                  | false =>
                    by_cases hbz : B1.getD q 0 = 0
                    case pos =>
                      have HSt : Hid (stepOC s q O1 B1 = O1 ∧ stepB s q B1 = B1.set q 0 ∧ stepRw qr s q R B1 = R ++ [knitI 3 qr 0 q]) := by
                        unfold Hid stepRw stepB stepOC wantS; rw [if_neg (fun h => h.2 (by rw [hbz, hpu]; rfl)), if_pos hkd, if_pos hkd, hpu]; exact ⟨rfl, rfl, by simp [List.getD, hB1, hqk]⟩
                      rw [hbz] at hbd
                      have hst : ∀ v, (W.setCell ⟨bb, q, none⟩ v).cell? ⟨bb, q, none⟩ = some v := fun v => World.cell?_setCell_same' _ _ _ (by rw [hbd]; rfl)
                      have hfz := HC.out.bed.frozenAt q
                      have HS1 := Lib.hid (bed_set q 0 HC.out HR.out HF.out)
                      rw [hkd] at d0
                      rw [hpu] at d1
                      clear hkd hpu hbz
                      go_wp2_with (at_builtin; refine wpList_append_lies _ rfl _ _ 28 rfl (w.heap.size + 1) 64 i0 (.agg #[.int .u8 0, .bool false, .int .u8 0, .int .i64 0, .int .i64 0, .int .i64 0, .int .i64 0]) 7 40 Tryz.underlying28 hi hz0 hz1 hz2 rfl (by decide) vr R.length (R.map Ins.cells).flatten rfl (HS1.out.2.1.own.alloc _) ⟨W.heap.size, 0, none⟩ 1 1 (knitI 3 qr 0 (q : Int)).cells rfl rfl (news_new' (W.setCell ⟨bb, q, none⟩ (.int .u8 0)) _ _ W.heap.size (by simp)) (one7' _) (by decide) (by unfold maxLen; omega) (by omega) (by have := HS1.out.1.below.size; simp at this; simp; omega) (W.heap.size + 1) (by simp) ?_; intro g cap w5 hown5 hgrow5 hor5 _; have HP := Lib.hid (row_pushed HS1.out.1 HS1.out.2.1 HS1.out.2.2 hown5 hgrow5 (hor5.imp id (fun e => by simpa using e))); clear hown5 hgrow5 hor5)
                      go_roundw
                      case rel =>
                        refine ⟨q + 1, _, .slice (some ⟨g, 0, none⟩) (R.length + 1) cap, O1, R ++ [knitI 3 qr 0 (q : Int)], B1.set q 0, by omega, by go_num, rfl, by rw [hR1], HP.out.1, HP.out.2.1, HP.out.2.2, by rw [List.length_set]; exact hB1, by omega, by rw [List.length_append, hR1]; rfl, (fun h => by omega), ?_⟩
                        have := HRow2.out
                        rw [HSt.out.1, HSt.out.2.1, HSt.out.2.2] at this
                        exact this
                      case measure => simp [intOf]; omega
                    case neg =>
                      have HSt : Hid (stepOC s q O1 B1 = O1 ++ [xferI (B1.getD q 0) q] ∧ stepB s q B1 = B1.set q 0 ∧ stepRw qr s q R B1 = R ++ [knitI 3 qr 0 q]) := by
                        unfold Hid stepRw stepB stepOC wantS; rw [if_pos ⟨hkd, by rw [hpu]; simpa using hbz⟩, if_pos hkd, if_pos hkd, hpu]; exact ⟨rfl, rfl, by simp [List.getD, hB1, hqk]⟩
                      rw [hkd] at d0
                      rw [hpu] at d1
                      generalize B1.getD q 0 = bq at hbd HSt hbz
                      have hbn : (bq != 0) = true := by simp [hbz]
                      have hbn2 : (bq == 0) = false := by simp [hbz]
                      clear hkd hpu hbz
                      go_wp2_with (first
                        | (at_builtin; refine wpList_append_lies _ rfl _ _ 28 rfl (w.heap.size + 1) 64 i0 (.agg #[.int .u8 0, .bool false, .int .u8 0, .int .i64 0, .int .i64 0, .int .i64 0, .int .i64 0]) 7 40 Tryz.underlying28 hi hz0 hz1 hz2 rfl (by decide) vo O1.length (O1.map Ins.cells).flatten rfl (HC.out.own.alloc _) ⟨W.heap.size, 0, none⟩ 1 1 (xferI bq (q : Int)).cells rfl rfl (news_new W _ _) (one7' _) (by decide) (by unfold maxLen; omega) (by omega) (by have := HC.out.below.size; simp; omega) (W.heap.size + 1) (by simp) ?_; intro g4 cap4 w4 hown4 hgrow4 hor4 _; have HP1 := Lib.hid (out_pushed HC.out HR.out HF.out hown4 hgrow4 hor4); have hbd4 := HP1.out.1.bedAt (k := q) (by omega); have hfz4 := HP1.out.1.bed.frozenAt q; have hst4 : ∀ v, (w4.setCell ⟨bb, q, none⟩ v).cell? ⟨bb, q, none⟩ = some v := (fun v => World.cell?_setCell_same' _ _ _ (by rw [hbd4]; rfl)); have HS4 := Lib.hid (bed_set q 0 HP1.out.1 HP1.out.2.1 HP1.out.2.2); clear hown4 hgrow4 hor4)
                        | (at_builtin; refine wpList_append_lies _ rfl _ _ 28 rfl (w.heap.size + 1) 64 i0 (.agg #[.int .u8 0, .bool false, .int .u8 0, .int .i64 0, .int .i64 0, .int .i64 0, .int .i64 0]) 7 40 Tryz.underlying28 hi hz0 hz1 hz2 rfl (by decide) vr R.length (R.map Ins.cells).flatten rfl (HS4.out.2.1.own.alloc _) ⟨w4.heap.size, 0, none⟩ 1 1 (knitI 3 qr 0 (q : Int)).cells rfl rfl (news_new' (w4.setCell ⟨bb, q, none⟩ (.int .u8 0)) _ _ w4.heap.size (by simp)) (one7' _) (by decide) (by unfold maxLen; omega) (by omega) (by have := HS4.out.1.below.size; simp at this; simp; omega) (w4.heap.size + 1) (by simp) ?_; intro g cap w5 hown5 hgrow5 hor5 _; have HP := Lib.hid (row_pushed HS4.out.1 HS4.out.2.1 HS4.out.2.2 hown5 hgrow5 (hor5.imp id (fun e => by simpa using e))); clear hown5 hgrow5 hor5))
                      go_roundw
                      case rel =>
                        refine ⟨q + 1, .slice (some ⟨g4, 0, none⟩) (O1.length + 1) cap4, .slice (some ⟨g, 0, none⟩) (R.length + 1) cap, O1 ++ [xferI bq q], R ++ [knitI 3 qr 0 (q : Int)], B1.set q 0, by omega, by go_num, rfl, by rw [hR1], HP.out.1, HP.out.2.1, HP.out.2.2, by rw [List.length_set]; exact hB1, by rw [List.length_append]; simp; omega, by rw [List.length_append, hR1]; rfl, (fun h => by omega), ?_⟩
                        have := HRow2.out
                        rw [HSt.out.1, HSt.out.2.1, HSt.out.2.2] at this
                        exact this
                      case measure => simp [intOf]; omega
                case inr =>
                  rw [hkd] at d0
                  have hSt : stepOC s q O1 B1 = O1 ∧ stepB s q B1 = B1 ∧ stepRw (qr) s q R B1 = R ++ [knitI 5 (qr) (B1.getD q 0) q] := by
                    unfold stepRw stepB stepOC; rw [if_neg (by omega), if_neg (by omega), if_neg (by omega)]; exact ⟨rfl, rfl, rfl⟩
                  have HSt := Lib.hid hSt
                  clear hkd hSt
                  generalize B1.getD q 0 = bq at hbd HSt HK
                  have hand : (bits BinOp.and IntKind.i64 (i : Int) 1 == 1) = qr := by
                    rw [HQ.out, and_small i (by omega), Bool.eq_iff_iff]; simp; omega
                  clear HK
                  generalize s.purl = pu at d1
                  cases pu
                  all_goals
                    go_wp2_with (at_builtin; refine wpList_append_lies _ rfl _ _ 28 rfl (w.heap.size + 1) 64 i0 (.agg #[.int .u8 0, .bool false, .int .u8 0, .int .i64 0, .int .i64 0, .int .i64 0, .int .i64 0]) 7 40 Tryz.underlying28 hi hz0 hz1 hz2 rfl (by decide) vr R.length (R.map Ins.cells).flatten rfl (HR.out.own.alloc _) ⟨W.heap.size, 0, none⟩ 1 1 (knitI 5 qr bq (q : Int)).cells rfl rfl (news_new W _ _) (one7' _) (by decide) (by unfold maxLen; omega) (by omega) (by have := HC.out.below.size; simp; omega) (W.heap.size + 1) (by simp) ?_; intro g cap w4 hown4 hgrow hor _; have HP := Lib.hid (row_pushed HC.out HR.out HF.out hown4 hgrow hor); clear hown4 hgrow hor)
                    go_roundw
                    case rel =>
                      refine ⟨q + 1, _, .slice (some ⟨g, 0, none⟩) (R.length + 1) cap, O1, R ++ [knitI 5 qr bq (q : Int)], B1, by omega, by go_num, rfl, by rw [hR1], HP.out.1, HP.out.2.1, HP.out.2.2, hB1, by omega, by rw [List.length_append, hR1]; rfl, (fun h => by omega), ?_⟩
                      have := HRow2.out
                      rw [HSt.out.1, HSt.out.2.1, HSt.out.2.2] at this
                      exact this
                    case measure => simp [intOf]; omega
            · obtain rfl : i = p.length := by omega
              have HL2 : Hid (compL (k : Int) p = O) := by
                unfold Hid; rw [HL.out, HRun.out, List.drop_length]; rfl
              obtain ⟨a9, c9, rfl, hc9⟩ := own_slice HC.out.own
              have HSl : Hid (SlX wr wr.heap.size a9 O) := SlS.of_own (cells7 O) (by rw [List.length_map]) HC.out.own
              have HB9 := Lib.hid HC.out.below
              by_cases hbig : 2000 < O.length
              · have HF : Hid (compE (k : Int) p = 4) := by unfold Hid; rw [HE.out, HL2.out, if_pos hbig]
                clear HRun HC
                go_wp2
                go_ret2
                exact compPost.err HF.out (by decide) HB9.out
              · have HF : Hid (compE (k : Int) p = 0) := by unfold Hid; rw [HE.out, HL2.out, if_neg hbig]
                have HG : Hid (compO (k : Int) p = O) := by unfold Hid compO; rw [HF.out, if_pos rfl, HL2.out]
                clear HRun HC
                go_wp2
                go_ret2
                unfold compPost
                rw [HF.out, HG.out]
                exact ⟨a9, c9, rfl, HSl.out, hc9, HB9.out⟩
end Go.Proofs.YtbnddpknejgmhaaGreat
