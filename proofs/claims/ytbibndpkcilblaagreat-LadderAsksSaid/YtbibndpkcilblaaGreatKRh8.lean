/- Layer 28, the reference: hanging. -/
import Derived.Test.YtbibndpkcilblaaGreatKSf
namespace Go.Proofs.YtbibndpkcilblaaGreat
open Go.RowKit Go.Shelf Go.Sort
set_option maxRecDepth 100000

theorem hangI_hi (lp : List Lp) (i : Nat) : ∀ m k, i + m < k → hangI lp i m k = false
  | 0, k, h => decide_eq_false (by omega)
  | m + 1, k, h => by
    rw [show hangI lp i (m + 1) k = if k = i + 1 + m then (parN lp k).any (fun p => hangI lp i m p.toNat) else hangI lp i m k from rfl, if_neg (by omega)]
    exact hangI_hi lp i m k (by omega)
/-- The marks while a loop's parents are gone through. -/
def hgQ (lp : List Lp) (i m q : Nat) : Nat → Bool := setF (hangI lp i m) (i + 1 + m) (((parN lp (i + 1 + m)).take q).any fun p => hangI lp i m p.toNat)
theorem hgQ_self (lp : List Lp) (i m q : Nat) : hgQ lp i m q (i + 1 + m) = ((parN lp (i + 1 + m)).take q).any fun p => hangI lp i m p.toNat := by
  unfold hgQ setF; rw [if_pos rfl]
theorem hgQ_else {lp : List Lp} {i m q p : Nat} (h : p ≠ i + 1 + m) : hgQ lp i m q p = hangI lp i m p := by
  unfold hgQ setF; rw [if_neg h]
theorem hgQ_zero (lp : List Lp) (i m : Nat) : hgQ lp i m 0 = hangI lp i m := by
  funext j
  by_cases h : j = i + 1 + m
  · subst h
    rw [hgQ_self, hangI_hi lp i m _ (by omega)]
    rfl
  · exact hgQ_else h
theorem hgQ_end {lp : List Lp} {i m q : Nat} (hq : q = (parN lp (i + 1 + m)).length) : hgQ lp i m q = hangI lp i (m + 1) := by
  funext j
  rw [show hangI lp i (m + 1) j = if j = i + 1 + m then (parN lp j).any (fun p => hangI lp i m p.toNat) else hangI lp i m j from rfl]
  by_cases h : j = i + 1 + m
  · subst h
    rw [hgQ_self, if_pos rfl, hq, List.take_length]
  · rw [hgQ_else h, if_neg h]
theorem hgQ_next {lp : List Lp} {i m q k : Nat} (hx : (parN lp (i + 1 + m))[q]? = some (k : Int)) (hk : k ≠ i + 1 + m) : setF (hgQ lp i m q) (i + 1 + m) (hgQ lp i m q (i + 1 + m) || hgQ lp i m q k) = hgQ lp i m (q + 1) := by
  funext j
  by_cases h : j = i + 1 + m
  · subst h
    rw [hgQ_self, hgQ_self, hgQ_else hk, List.take_add_one, hx, List.any_append]
    unfold setF
    rw [if_pos rfl]
    simp
  · rw [hgQ_else h]
    unfold setF
    rw [if_neg h, hgQ_else h]
theorem hang_start (lp : List Lp) (i : Nat) : setF (fun _ => false) i true = hangI lp i 0 := by
  funext j
  show setF (fun _ => false) i true j = decide (j = i)
  unfold setF
  by_cases h : j = i
  · rw [if_pos h, decide_eq_true h]
  · rw [if_neg h, decide_eq_false h]
set_option maxHeartbeats 8000000 in
theorem rhanging_any (a b x r : Option Addr) (ca nb cb nx cx nr cr K lv : Nat) (L : List Lp) (bound : List Int) (hG : GrN L bound K lv) (hM : L.length ≤ 2600) (bd rows : List Int) (i : Nat) (hi : i < L.length) (w : World) (h : RcAt w w.heap.size a b r L bd rows) :
    Calls Tryz.prog 20 #[rcV a b x r L.length ca nb cb nx cx nr cr, .int .i64 (i : Int)] w fun e w' => MkPost L.length (hangF L i) w e w' := by
  obtain ⟨M, hMe⟩ : ∃ M, M = L.length := ⟨_, rfl⟩
  have HMe := Lib.hid hMe
  rw [← hMe] at hM hi ⊢
  have hb1 := al_t w (rcB a b x r M ca nb cb nx cx nr cr)
  have h1 := RcBx.new (x := x) M ca nb cb nx cx nr cr h
  obtain ⟨pb, hpb⟩ : ∃ pb, pb = w.heap.size := ⟨_, rfl⟩
  have HX : Hid (RcBx pb a b x r M ca nb cb nx cx nr cr L bd rows (w.alloc (rcB a b x r M ca nb cb nx cx nr cr)) ∧ Below w.heap.size w (w.alloc (rcB a b x r M ca nb cb nx cx nr cr))) := by rw [hpb]; exact ⟨h1, hb1⟩
  have HG := Lib.hid hG
  have hiI : (i : Int) < (M : Int) := by omega
  have hi0 : (0 : Int) ≤ (i : Int) := by omega
  clear h h1 hb1 hG hMe
  go_enter Tryz.func20, Tryz.ntmps20
  go_upto_region 1 with fail
  refine abs_world (Q := fun W => Code.wp _ _ _ _ W) (F := fun W => RcBx pb a b x r M ca nb cb nx cx nr cr L bd rows W ∧ Below w.heap.size w W) _ HX.out ?_
  rw [show (Value.pointer (some ⟨w.heap.size, 0, none⟩)) = Value.pointer (some ⟨pb, 0, none⟩) by rw [hpb]]
  clear HX hpb
  rintro W1 ⟨h1, hb1⟩
  have HR : Hid (∀ W, Below W1.heap.size W1 W → RcBx pb a b x r M ca nb cb nx cx nr cr L bd rows W) := fun W hb => h1.to hb
  have HB1 := Lib.hid hb1
  have c0 := h1.c0
  obtain ⟨w3, hmk, ho3, hb3⟩ := mk_marks W1 M (by omega)
  obtain ⟨g, hg⟩ : ∃ g, g = W1.heap.size := ⟨_, rfl⟩
  have HB3 := Lib.hid hb3
  have h3 : Owns w3 W1.heap.size [pxF g M fun _ => false] := ⟨fun o ho => by rw [List.mem_singleton.1 ho, hg]; exact ho3, List.pairwise_singleton _ _⟩
  rw [← hg] at hmk
  have hf3 := (pxF_at h3.head).2.1 i
  have y3 := (pxF_at h3.head).1 i hi
  obtain ⟨h4, hb4⟩ := pxF_put h3 i true
  rw [hang_start L i] at h4
  have HX4 : Hid (Owns (w3.setCell ⟨g, i, none⟩ (.bool true)) W1.heap.size [pxF g M (hangI L i 0)] ∧ Below W1.heap.size W1 (w3.setCell ⟨g, i, none⟩ (.bool true))) :=
    ⟨h4, hb3.trans (Below.of_grown hb4 hb3.size (fun j e => by cases e; exact (pxF_at h3.head).2.2))⟩
  clear h1 hb1 ho3 hb3 h3 h4 hb4 hg
  go_upto_region 3 with fail
  clear c0 hmk hf3 y3
  have hw1 : IntKind.i64.wrap ((i : Int) + 1) = (i : Int) + 1 := IntWalk.i64_in _ (by omega)
  have HJi : Hid (i + 1 ≤ M) := by show _ ≤ _; omega
  go_wp2
  go_loopw [6, 7] (fun s6 s7 wr => ∃ (m : Nat) (v7 : Value), i + 1 + m ≤ M ∧ s6 = .int .i64 ((i + 1 + m : Nat) : Int) ∧ v7 = s7 ∧ Hid (Owns wr W1.heap.size [pxF g M (hangI L i m)] ∧ Below W1.heap.size W1 wr)) (fun s6 _ _ => M - (intOf s6).toNat)
  case atStart => exact ⟨0, _, by have := HJi.out; omega, by push_cast; rfl, rfl, HX4.out⟩
  case round =>
    obtain ⟨m, v7, hm, rfl, rfl, HX⟩ := hrel
    clear HX4 hw1
    obtain ⟨W6, hW6⟩ : ∃ x : World, x = wr := ⟨_, rfl⟩
    rw [← hW6] at HX ⊢
    clear hW6
    have c0 := (HR.out W6 HX.out.2).c0
    obtain ⟨u, hu⟩ : ∃ u, u = i + 1 + m := ⟨_, rfl⟩
    have HU := Lib.hid hu
    rw [← hu] at hm ⊢
    clear hu
    by_cases hlt : u < M
    case neg =>
      have hX := HX.out
      rw [show m = L.length - 1 - i by have := HMe.out; have := HU.out; omega] at hX
      have HQ : Hid (MkPost M (hangF L i) w (.returned (.slice (some ⟨g, 0, none⟩) M M)) W6) := ⟨g, rfl, own_more hX.1.head HB1.out.size, HB1.out.trans (hX.2.mono HB1.out.size)⟩
      clear hX HX
      go_wp2
      go_ret
      exact HQ.out
    case pos =>
      have huL : u < L.length := by have := HMe.out; omega
      have huI : (u : Int) < (M : Int) := by omega
      have hu0 : (0 : Int) ≤ (u : Int) := by omega
      have HJm : Hid (u + 1 ≤ M ∧ u < M) := by show _ ∧ _; omega
      have HX7 : Hid (Owns W6 W1.heap.size [pxF g M (hgQ L i m 0)] ∧ Below W1.heap.size W1 W6) := by
        rw [hgQ_zero]; exact HX.out
      clear HX
      go_upto_region 6 with fail
      clear c0
      go_wp2
      go_loopw [7] (fun s7 wr => ∃ (q : Nat), q ≤ (parN L u).length ∧ s7 = .int .i64 (q : Int) ∧ Hid (Owns wr W1.heap.size [pxF g M (hgQ L i m q)] ∧ Below W1.heap.size W1 wr)) (fun s7 _ => (parN L u).length - (intOf s7).toNat)
      case atStart => exact ⟨0, Nat.zero_le _, rfl, HX7.out⟩
      case round =>
        obtain ⟨q, hq, rfl, HX⟩ := hrel
        clear HX7
        obtain ⟨W8, hW8⟩ : ∃ x : World, x = wr := ⟨_, rfl⟩
        rw [← hW8] at HX ⊢
        clear hW8
        have hBs : W1.heap.size ≤ W8.heap.size := HX.out.2.size
        have h8 := HR.out W8 HX.out.2
        have c0 := h8.c0
        obtain ⟨lb, loff, l, A', C', ea, -, hl, -, -, l2, -, hsl⟩ := h8.at_.lp.at_ (j := u) huL
        subst ea
        have hpar : parN L u = l.par := by unfold parN; rw [List.getD_eq_getElem?_getD, hl]; rfl
        obtain ⟨Q, hQ⟩ : ∃ Q, Q = l.par.length := ⟨_, rfl⟩
        have hQ26 : Q ≤ 2600 := by
          have h1 := belowK_len HG.out (next := [(u : Int)]) (fun x hx => ⟨u, List.mem_singleton.1 hx, huL⟩) 1 (Nat.le_refl _)
          have h2 := belowK_next (lp := L) (next := [(u : Int)]) (k := 0) rfl
          rw [h2, List.length_append, Int.toNat_natCast, hpar] at h1
          have := HMe.out
          omega
        rw [hpar, ← hQ] at hq
        rw [← hQ] at l2
        have HPar := Lib.hid hpar
        have HQe := Lib.hid hQ
        have hcap : (0 : Int) ≤ (q : Int) := by omega
        by_cases hqQ : q < Q
        case neg =>
          have hqq : q = (parN L (i + 1 + m)).length := by rw [← HU.out, HPar.out, ← HQe.out]; omega
          have hX := HX.out
          rw [hgQ_end hqq] at hX
          have HQ : Hid (i + 1 + (m + 1) ≤ M ∧ Value.int .i64 ((u : Int) + 1) = .int .i64 ((i + 1 + (m + 1) : Nat) : Int) ∧ (Owns W8 W1.heap.size [pxF g M (hangI L i (m + 1))] ∧ Below W1.heap.size W1 W8)) := ⟨by have := HJm.out; have := HU.out; omega, by rw [HU.out]; push_cast; rfl, hX⟩
          clear hX HX hqq h8 hl hpar hQ hsl hBs
          go_wp2
          go_roundw
          case rel => exact ⟨m + 1, _, HQ.out.1, by first | exact HQ.out.2.1 | (rw [← HQ.out.2.1]; go_num), rfl, HQ.out.2.2⟩
          case measure => simp [intOf]; have := HJm.out; omega
        case pos =>
          obtain ⟨pg, poff, xk, ev, -, hx, x0⟩ := hsl.at_ (k := q) (by omega)
          subst ev
          obtain ⟨k, e, hkm, -, -⟩ := (HG.out.par u huL).2 xk (by rw [hpar]; exact List.mem_of_getElem? hx)
          subst e
          have hkM : k < M := by omega
          obtain ⟨hbl, hfz, hge⟩ := pxF_at HX.out.1.head
          have b0 := hbl u (by omega)
          have b1 := hbl k hkM
          have hf0 := hfz u
          obtain ⟨z0, hz0⟩ : ∃ z, z = hgQ L i m q u := ⟨_, rfl⟩
          obtain ⟨z1, hz1⟩ : ∃ z, z = hgQ L i m q k := ⟨_, rfl⟩
          rw [← hz0] at b0
          rw [← hz1] at b1
          obtain ⟨h9, hb9⟩ := pxF_put HX.out.1 u (z0 || z1)
          have hnx : setF (hgQ L i m q) u (z0 || z1) = hgQ L i m (q + 1) := by
            rw [hz0, hz1, HU.out]
            exact hgQ_next (by rw [← HU.out, hpar]; exact hx) (by rw [← HU.out]; omega)
          rw [hnx] at h9
          have HQ : Hid (Owns (W8.setCell ⟨g, u, none⟩ (.bool (z0 || z1))) W1.heap.size [pxF g M (hgQ L i m (q + 1))] ∧ Below W1.heap.size W1 (W8.setCell ⟨g, u, none⟩ (.bool (z0 || z1)))) :=
            ⟨h9, HX.out.2.trans (Below.of_grown hb9 hBs (fun j e => by cases e; exact hge))⟩
          have hkI : (k : Int) < (M : Int) := by omega
          have hk0 : (0 : Int) ≤ (k : Int) := by omega
          have hqI : (q : Int) < (Q : Int) := by omega
          have HJq : Hid (q + 1 ≤ (parN L u).length ∧ q < (parN L u).length) := by show _ ∧ _; rw [HPar.out, ← HQe.out]; omega
          clear hbl hfz hge hz0 hz1 hnx h9 hb9 HX hBs hx h8 hl hpar hQ hsl
          cases z0 with
          | true =>
            rw [Bool.true_or] at HQ
            go_wp2
            go_roundw
            case rel => exact ⟨q + 1, HJq.out.1, by go_num, HQ.out⟩
            case measure => simp [intOf]; have := HJq.out; omega
          | false =>
            rw [Bool.false_or] at HQ
            go_wp2
            go_roundw
            case rel => exact ⟨q + 1, HJq.out.1, by go_num, HQ.out⟩
            case measure => simp [intOf]; have := HJq.out; omega
end Go.Proofs.YtbibndpkcilblaaGreat
