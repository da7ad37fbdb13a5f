/- Layer 28, the reference: deep. -/
import Derived.Test.YtbibndpkcilblaaGreatKRh9
namespace Go.Proofs.YtbibndpkcilblaaGreat
open Go.RowKit Go.Shelf Go.Sort
set_option maxRecDepth 100000

theorem deepI_next (lp : List Lp) (F : Nat → Bool) (k : Nat) : deepI lp F (k + 1) = if F k = true ∧ rowN lp k ≠ (deepI lp F k).2 then ((deepI lp F k).1 + 1, rowN lp k) else deepI lp F k := rfl
theorem deepI_le (lp : List Lp) (F : Nat → Bool) : ∀ k : Nat, 0 ≤ (deepI lp F k).1 ∧ (deepI lp F k).1 ≤ (k : Int)
  | 0 => ⟨Int.le_refl _, Int.le_refl _⟩
  | k + 1 => by
    have h := deepI_le lp F k
    rw [deepI_next]
    split
    · show 0 ≤ (deepI lp F k).1 + 1 ∧ (deepI lp F k).1 + 1 ≤ _
      push_cast; omega
    · push_cast; omega
set_option maxHeartbeats 8000000 in
theorem rdeep_any (a b x r : Option Addr) (ca nb cb nx cx nr cr K lv : Nat) (L : List Lp) (bound : List Int) (hG : GrN L bound K lv) (hM : L.length ≤ 2600) (bd rows : List Int) (i : Nat) (w : World) (h : RcAt w w.heap.size a b r L bd rows) :
    Calls Tryz.prog 27 #[rcV a b x r L.length ca nb cb nx cx nr cr, .int .i64 (i : Int)] w fun e w' => RetE (depZ L i) w e w' := by
  have HD : Hid (depZ L i = (deepI L (runF L [(i : Int)]) L.length).1) := rfl
  have hRu : ∀ W, RcAt W W.heap.size a b r L bd rows → Calls Tryz.prog 44 #[rcV a b x r L.length ca nb cb nx cx nr cr, .slice (some ⟨W.heap.size, 0, none⟩) 1 1] (W.alloc (.cells #[.int .i64 (i : Int)] 3)) fun e w' => MkPost L.length (runF L [(i : Int)]) (W.alloc (.cells #[.int .i64 (i : Int)] 3)) e w' := fun W h =>
    rrunning_any a b x r ca nb cb nx cx nr cr K lv L bound hG hM bd rows (some ⟨W.heap.size, 0, none⟩) 1 [(i : Int)] (by simp) (W.alloc (.cells #[.int .i64 (i : Int)] 3)) (h.to (al_t W _)) (lit_sl W [(i : Int)] _ rfl)
  have hLe : ∀ k : Nat, 0 ≤ (deepI L (runF L [(i : Int)]) k).1 ∧ (deepI L (runF L [(i : Int)]) k).1 ≤ (k : Int) := deepI_le L _
  have hNx := deepI_next L (runF L [(i : Int)])
  obtain ⟨F, hF⟩ : ∃ F, F = runF L [(i : Int)] := ⟨_, rfl⟩
  rw [← hF] at HD hRu hLe hNx
  obtain ⟨M, hMe⟩ : ∃ M, M = L.length := ⟨_, rfl⟩
  have HMe := Lib.hid hMe
  rw [← hMe] at hM hRu HD ⊢
  have HRu := Lib.hid hRu
  have HLe := Lib.hid hLe
  have HNx := Lib.hid hNx
  have hb1 := al_t w (rcB a b x r M ca nb cb nx cx nr cr)
  have h1 := RcBx.new (x := x) M ca nb cb nx cx nr cr h
  obtain ⟨pb, hpb⟩ : ∃ pb, pb = w.heap.size := ⟨_, rfl⟩
  have HX : Hid (RcBx pb a b x r M ca nb cb nx cx nr cr L bd rows (w.alloc (rcB a b x r M ca nb cb nx cx nr cr)) ∧ Below w.heap.size w (w.alloc (rcB a b x r M ca nb cb nx cx nr cr))) := by rw [hpb]; exact ⟨h1, hb1⟩
  have HG := Lib.hid hG
  clear h h1 hb1 hG hMe hF hRu hLe hNx
  go_enter Tryz.func27, Tryz.ntmps27
  go_upto_region 1 with fail
  refine abs_world (Q := fun W => Code.wp _ _ _ _ W) (F := fun W => RcBx pb a b x r M ca nb cb nx cx nr cr L bd rows W ∧ Below w.heap.size w W) _ HX.out ?_
  rw [show (Value.pointer (some ⟨w.heap.size, 0, none⟩)) = Value.pointer (some ⟨pb, 0, none⟩) by rw [hpb]]
  clear HX hpb
  rintro W1 ⟨h1, hb1⟩
  have HR : Hid (∀ W, Below W1.heap.size W1 W → RcBx pb a b x r M ca nb cb nx cx nr cr L bd rows W) := fun W hb => h1.to hb
  have HB1 := Lib.hid hb1
  have HK1 := Lib.hid (HRu.out W1 h1.at_)
  have HA1 := Lib.hid (al_t W1 (.cells #[.int .i64 (i : Int)] 3))
  have c0 := h1.c0
  have c1 := h1.c1
  have c2 := h1.c2
  have c3 := h1.c3
  clear h1 hb1 HRu
  go_upto_region 2 with (go_at_call 44; refine HK1.out.mono ?_; rintro e w2 ⟨g, rfl, hm, hb2⟩)
  have hB2 := HA1.out.trans (hb2.mono HA1.out.size)
  have HX2 : Hid (BlAt g M F w2 ∧ Below W1.heap.size W1 w2) := ⟨(pxF_at hm).1, hB2⟩
  clear hm hb2 hB2 HK1 HA1 c0 c1 c2 c3
  have hX2 := HX2.out
  have hc := (HR.out w2 hX2.2)
  have c0 := hc.c0
  have HAt := Lib.hid hc.at_
  have HBl := Lib.hid hX2.1
  have HB2 := Lib.hid (HB1.out.trans (hX2.2.mono HB1.out.size))
  clear hX2 hc HX2 HR HB1
  go_wp2
  go_loopw [6, 7, 8] (fun s6 s7 s8 wr => ∃ (k : Nat) (n last : Int), k ≤ M ∧ s8 = .int .i64 (k : Int) ∧ s6 = .int .i64 n ∧ s7 = .int .i64 last ∧ Hid (n = (deepI L F k).1 ∧ last = (deepI L F k).2) ∧ wr = w2) (fun _ _ s8 _ => M - (intOf s8).toNat)
  case atStart => exact ⟨0, 0, -1, Nat.zero_le _, rfl, rfl, rfl, ⟨rfl, rfl⟩, rfl⟩
  case round =>
    obtain ⟨k, n, last, hk, rfl, rfl, rfl, Hq, rfl⟩ := hrel
    by_cases hlt : k < M
    case neg =>
      have hkm : k = M := by omega
      have hz : n = depZ L i := by rw [HD.out, ← hkm]; exact Hq.out.1
      have HQ : Hid (RetE (depZ L i) w (.returned (.int .i64 n)) wr) := ⟨by rw [hz], HB2.out⟩
      clear hz Hq
      go_wp2
      go_ret
      exact HQ.out
    case pos =>
      have hkI : (k : Int) < (M : Int) := by omega
      have hk0 : (0 : Int) ≤ (k : Int) := by omega
      have HJ : Hid (k + 1 ≤ M ∧ k < M) := by show _ ∧ _; omega
      have b0 := HBl.out k hlt
      obtain ⟨lb, loff, l, A', C', ea, -, hl, l0, -, -, -, -⟩ := HAt.out.lp.at_ (j := k) (by have := HMe.out; omega)
      subst ea
      have hrow : rowN L k = l.row := by unfold rowN; rw [List.getD_eq_getElem?_getD, hl]; rfl
      obtain ⟨R, hR⟩ : ∃ R, R = l.row := ⟨_, rfl⟩
      rw [← hR] at l0 hrow
      have hn := HNx.out k
      rw [hrow, ← Hq.out.1, ← Hq.out.2] at hn
      have hle := HLe.out k
      rw [← Hq.out.1] at hle
      have hn0 : 0 ≤ n := hle.1
      have hn1 : n ≤ 2600 := by have := hle.2; omega
      obtain ⟨z, hz⟩ : ∃ z, z = F k := ⟨_, rfl⟩
      rw [← hz] at b0 hn
      have HN := Lib.hid hn
      have HQo := Hq
      clear hn hz hR hrow hl hle Hq
      cases z with
      | false =>
        have HQ : Hid (n = (deepI L F (k + 1)).1 ∧ last = (deepI L F (k + 1)).2) := by
          rw [HN.out, if_neg (by simp)]
          exact HQo.out
        clear HN
        go_wp2
        go_roundw
        case rel => exact ⟨k + 1, _, _, HJ.out.1, by go_num, rfl, rfl, HQ.out, by first | rfl | trivial⟩
        case measure => simp [intOf]; have := HJ.out; omega
      | true =>
        by_cases hd : R = last
        case pos =>
          have HQ : Hid (n = (deepI L F (k + 1)).1 ∧ last = (deepI L F (k + 1)).2) := by
            rw [HN.out, if_neg (by simp [hd])]
            exact HQo.out
          have e1 : (R != last) = false := by simp [hd]
          clear hd HN
          go_wp2
          go_roundw
          case rel => exact ⟨k + 1, _, _, HJ.out.1, by go_num, rfl, rfl, HQ.out, by first | rfl | trivial⟩
          case measure => simp [intOf]; have := HJ.out; omega
        case neg =>
          have HQ : Hid (n + 1 = (deepI L F (k + 1)).1 ∧ R = (deepI L F (k + 1)).2) := by
            rw [HN.out, if_pos ⟨rfl, hd⟩]
            exact ⟨rfl, rfl⟩
          have e1 : (R != last) = true := by simp [hd]
          clear hd HN
          go_wp2
          go_roundw
          case rel => exact ⟨k + 1, n + 1, R, HJ.out.1, by go_num, by go_num, rfl, HQ.out, by first | rfl | trivial⟩
          case measure => simp [intOf]; have := HJ.out; omega
end Go.Proofs.YtbibndpkcilblaaGreat
