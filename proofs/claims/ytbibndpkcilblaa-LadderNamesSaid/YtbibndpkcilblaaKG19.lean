/- Layer 28, the reference: Has, live, list, kids. Layer 28, the reference: kids. -/
import Derived.Test.YtbibndpkcilblaaKG18
namespace Go.Proofs.Ytbibndpkcilblaa
open Go.RowKit Go.Shelf Go.Sort
set_option maxRecDepth 100000

set_option maxHeartbeats 1000000 in
theorem rhas_any (A : Option Addr) (cap : Nat) (l : List Int) (x : Int) (hn : l.length ≤ 1000000) (w : World) (hs : SlI w w.heap.size A l) :
    Calls Try.prog 19 #[.slice A l.length cap, .int .i64 x] w fun e w' => e = .returned (.bool (l.any fun y => decide (y = x))) ∧ w = w' := by
  go_enter Try.func19, Try.ntmps19
  go_wp2
  go_loopw [5] (fun s5 wr => ∃ k : Nat, k ≤ l.length ∧ s5 = .int .i64 k ∧ Hid (∀ y ∈ l.take k, decide (y = x) = false) ∧ w = wr) (fun s5 _ => l.length - (intOf s5).toNat)
  case atStart => exact ⟨0, Nat.zero_le _, rfl, (fun r hr => by simp at hr), rfl⟩
  case round =>
    obtain ⟨k, hk, rfl, H, rfl⟩ := hrel
    by_cases hlt : k < l.length
    · obtain ⟨b, off, y, rfl, hB, hr, hc⟩ := hs.at_ hlt
      have HR := Lib.hid hr
      clear hs hr
      by_cases he : y = x
      · have HF : Hid ((l.any fun y => decide (y = x)) = true) := List.any_eq_true.2 ⟨y, List.mem_of_getElem? HR.out, decide_eq_true he⟩
        have e1 : (y == x) = true := by simp [he]
        clear H he
        go_wp2
        go_ret
        exact ⟨ret_bool HF.out.symm, rfl⟩
      · have HQ : Hid (∀ z ∈ l.take (k + 1), decide (z = x) = false) := fun z hz => by
          obtain ⟨hk', e⟩ := List.getElem?_eq_some_iff.1 HR.out
          rw [List.take_succ_eq_append_getElem hk', e] at hz
          rcases List.mem_append.1 hz with h | h
          · exact H.out z h
          · rw [List.mem_singleton.1 h]; exact decide_eq_false he
        have e1 : (y == x) = false := by simp [he]
        clear H he
        go_wp2
        go_roundw
        case rel => exact ⟨k + 1, by omega, by go_num, HQ, by first | rfl | trivial⟩
        case measure => simp [intOf]; omega
    · have HF : Hid ((l.any fun y => decide (y = x)) = false) := by
        unfold Hid
        rw [List.any_eq_false]
        intro z hz
        have := H.out z (by rw [List.take_of_length_le (by omega)]; exact hz)
        simp [this]
      clear H hs
      go_wp2
      go_ret
      exact ⟨ret_bool HF.out.symm, rfl⟩
/-- A worked piece of the reference's, read. -/
structure RcAt (W : World) (B : Nat) (a b r : Option Addr) (L : List Lp) (bd rows : List Int) : Prop where
  lp : SlL W B a L
  bd : SlI W B b bd
  rw_ : SlI W B r rows
theorem RcAt.to {W W' : World} {a b r : Option Addr} {L : List Lp} {bd rows : List Int} (h : RcAt W W.heap.size a b r L bd rows) (hb : Below W.heap.size W W') : RcAt W' W'.heap.size a b r L bd rows := ⟨(h.lp.below hb).more hb.size, (h.bd.below hb).more hb.size, (h.rw_.below hb).more hb.size⟩
abbrev rcV (a b x r : Option Addr) (M ca nb cb nx cx nr cr : Nat) : Value := .agg #[.slice a M ca, .slice b nb cb, .slice x nx cx, .slice r nr cr]
abbrev rcB (a b x r : Option Addr) (M ca nb cb nx cx nr cr : Nat) : Obj := .cells #[.slice a M ca, .slice b nb cb, .slice x nx cx, .slice r nr cr] 39
structure RcBx (pb : Nat) (a b x r : Option Addr) (M ca nb cb nx cx nr cr : Nat) (L : List Lp) (bd rows : List Int) (W : World) : Prop where
  c0 : W.cell? ⟨pb, 0, none⟩ = some (.slice a M ca)
  c1 : W.cell? ⟨pb, 1, none⟩ = some (.slice b nb cb)
  c2 : W.cell? ⟨pb, 2, none⟩ = some (.slice x nx cx)
  c3 : W.cell? ⟨pb, 3, none⟩ = some (.slice r nr cr)
  at_ : RcAt W W.heap.size a b r L bd rows
theorem RcBx.to {pb : Nat} {a b x r : Option Addr} {M ca nb cb nx cx nr cr : Nat} {L : List Lp} {bd rows : List Int} {W W' : World} (h : RcBx pb a b x r M ca nb cb nx cx nr cr L bd rows W) (hb : Below W.heap.size W W') : RcBx pb a b x r M ca nb cb nx cx nr cr L bd rows W' :=
  ⟨(bcell hb (lt_of_cell h.c0) _).trans h.c0, (bcell hb (lt_of_cell h.c1) _).trans h.c1, (bcell hb (lt_of_cell h.c2) _).trans h.c2, (bcell hb (lt_of_cell h.c3) _).trans h.c3, h.at_.to hb⟩
theorem RcBx.new {a b x r : Option Addr} (M ca nb cb nx cx nr cr : Nat) {L : List Lp} {bd rows : List Int} {W : World} (h : RcAt W W.heap.size a b r L bd rows) : RcBx W.heap.size a b x r M ca nb cb nx cx nr cr L bd rows (W.alloc (rcB a b x r M ca nb cb nx cx nr cr)) :=
  ⟨cell_new rfl rfl rfl, cell_new rfl rfl rfl, cell_new rfl rfl rfl, cell_new rfl rfl rfl, h.to (al_t W _)⟩
set_option maxHeartbeats 1000000 in
theorem rlive_any (a b x r : Option Addr) (M ca nb cb nx cx cr K : Nat) (hK : K ≤ 1000) (lv : Int) (L : List Lp) (bd rows : List Int) (hr : rows[K]? = some lv) (w : World) (h : RcAt w w.heap.size a b r L bd rows) :
    Calls Try.prog 41 #[rcV a b x r M ca nb cb nx cx (K + 2) cr] w fun e w' => e = .returned (.int .i64 lv) ∧ Below w.heap.size w w' := by
  have hb := al_t w (rcB a b x r M ca nb cb nx cx (K + 2) cr)
  have h1 := RcBx.new (x := x) M ca nb cb nx cx (K + 2) cr h
  obtain ⟨g, off, z, rfl, -, hz, z0⟩ := h1.at_.rw_.at_ (k := K) (List.getElem?_eq_some_iff.1 hr).1
  rw [hr] at hz
  cases hz
  have c3 := h1.c3
  have HB := Lib.hid hb
  have hw1 : IntKind.i64.wrap (((K + 2 : Nat) : Int) - 2) = (K : Int) := by rw [show ((K + 2 : Nat) : Int) - 2 = (K : Int) by omega]; exact IntWalk.i64_in _ (by omega)
  have hK2 : (K : Int) < ((K + 2 : Nat) : Int) := by omega
  have hK0 : (0 : Int) ≤ (K : Int) := by omega
  clear h h1 hb hr
  obtain ⟨N, hN⟩ : ∃ N, N = K + 2 := ⟨_, rfl⟩
  rw [← hN] at z0 c3 hw1 hK2 HB ⊢
  clear hN
  go_enter Try.func41, Try.ntmps41
  go_wp2
  go_ret
  exact ⟨rfl, HB.out⟩
/-- A list that a call hands back. -/
def SnJ (l : List Int) (w : World) (e : Ending) (w' : World) : Prop := ∃ v, e = .returned v ∧ (pxJ v l).lies w' w.heap.size ∧ Below w.heap.size w w'
/-- A row of marks, read. -/
def BlAt (g M : Nat) (F : Nat → Bool) (W : World) : Prop := ∀ k, k < M → W.cell? ⟨g, k, none⟩ = some (.bool (F k))
theorem BlAt.to {g M : Nat} {F : Nat → Bool} {W W' : World} (h : BlAt g M F W) (hb : Below W.heap.size W W') : BlAt g M F W' := fun k hk => (bcell hb (lt_of_cell (h k hk)) _).trans (h k hk)
set_option maxHeartbeats 2000000 in
theorem rlist_any (g M : Nat) (hM : M ≤ 2600) (F : Nat → Bool) (w : World) (h : BlAt g M F w) :
    Calls Try.prog 35 #[.slice (some ⟨g, 0, none⟩) M M] w fun e w' => SnJ (listN M F) w e w' := by
  have HH : Hid (∀ W, Below w.heap.size w W → BlAt g M F W) := fun W hb => h.to hb
  have HX0 : Hid (Owns w w.heap.size [pxJ (.slice none 0 0) (listN 0 F)] ∧ Below w.heap.size w w) := ⟨Owns.nil.none 3 1, Below.refl _ _⟩
  clear h
  go_enter Try.func35, Try.ntmps35
  go_wp2
  go_loopw [3, 4] (fun s3 s4 wr => ∃ (i : Nat) (A : Option Addr) (q c : Nat), i ≤ M ∧ s4 = .int .i64 (i : Int) ∧ s3 = .slice A q c ∧ Hid (q = (listN i F).length) ∧ Hid (Owns wr w.heap.size [pxJ (.slice A q c) (listN i F)] ∧ Below w.heap.size w wr)) (fun _ s4 _ => M - (intOf s4).toNat)
  case atStart => exact ⟨0, none, 0, 0, Nat.zero_le _, rfl, rfl, rfl, HX0.out⟩
  case round =>
    obtain ⟨i, A, q, c, hi, rfl, rfl, Hq, HX⟩ := hrel
    clear HX0
    by_cases hlt : i < M
    case neg =>
      have him : i = M := by omega
      have hX := HX.out
      rw [him] at hX
      have HQ : Hid (SnJ (listN M F) w (.returned (.slice A q c)) wr) := ⟨_, rfl, hX.1.head, hX.2⟩
      clear hX HX him Hq
      go_wp2
      go_ret
      exact HQ.out
    case pos =>
      have y0 := HH.out wr HX.out.2 i hlt
      obtain ⟨z, hz⟩ : ∃ z, z = F i := ⟨_, rfl⟩
      rw [← hz] at y0
      have HZ := Lib.hid hz
      have hiI : (i : Int) < (M : Int) := by omega
      have hi0 : (0 : Int) ≤ (i : Int) := by omega
      have HJ : Hid (i + 1 ≤ M ∧ i < M) := by show _ ∧ _; omega
      clear hz
      cases z with
      | false =>
        have HQ : Hid (q = (listN (i + 1) F).length ∧ (Owns wr w.heap.size [pxJ (.slice A q c) (listN (i + 1) F)] ∧ Below w.heap.size w wr)) := by
          rw [listN_no HZ.out.symm]
          exact ⟨Hq.out, HX.out⟩
        clear HX Hq
        go_wp2
        go_roundw
        case rel => exact ⟨i + 1, _, _, _, HJ.out.1, by go_num, rfl, HQ.out.1, HQ.out.2⟩
        case measure => simp [intOf]; have := HJ.out; omega
      | true =>
        obtain ⟨A3, c3, w8, hr9, h8, hb8⟩ := pxJ_app (a := A) (c := c) (l := listN i F) (by rw [← Hq.out]; exact HX.out.1) HX.out.2.size (by have := listN_len i F; omega) (i : Int)
        rw [← Hq.out] at hr9 h8
        have HQ : Hid (q + 1 = (listN (i + 1) F).length ∧ (Owns w8 w.heap.size [pxJ (.slice A3 (q + 1) c3) (listN (i + 1) F)] ∧ Below w.heap.size w w8)) := by
          rw [listN_yes HZ.out.symm]
          exact ⟨by rw [List.length_append, ← Hq.out]; rfl, h8, HX.out.2.trans hb8⟩
        clear HX Hq h8 hb8
        go_wp2_with (at_builtin; refine wpList_append_run _ rfl _ _ _ _ rfl _ _ (by rfl) (by rfl) hr9 ?_)
        go_roundw
        case rel => exact ⟨i + 1, _, _, _, HJ.out.1, by go_num, rfl, HQ.out.1, HQ.out.2⟩
        case measure => simp [intOf]; have := HJ.out; omega
end Go.Proofs.Ytbibndpkcilblaa
namespace Go.Proofs.Ytbibndpkcilblaa
open Go.RowKit Go.Shelf Go.Sort
set_option maxRecDepth 100000

/-- What kids hands back. -/
def KdPost (L : List Lp) (w : World) (e : Ending) (w' : World) : Prop := ∃ v, e = .returned v ∧ KdE w.heap.size v (kidsA L) [] w' ∧ Below w.heap.size w w'
theorem KdE.more {B B' : Nat} {v : Value} {K : List (List Int)} {X : List Own} {W : World} (h : KdE B' v K X W) (hB : B ≤ B') : KdE B v K X W := by
  obtain ⟨ks, h⟩ := h
  exact ⟨ks, h.own.more hB, h.len⟩
set_option maxHeartbeats 8000000 in
theorem rkids_any (a b x r : Option Addr) (ca nb cb nx cx nr cr K lv : Nat) (L : List Lp) (bound : List Int) (hG : GrN L bound K lv) (hM : L.length ≤ 2600) (bd rows : List Int) (w : World) (h : RcAt w w.heap.size a b r L bd rows) :
    Calls Try.prog 59 #[rcV a b x r L.length ca nb cb nx cx nr cr] w fun e w' => KdPost L w e w' := by
  obtain ⟨M, hMe⟩ : ∃ M, M = L.length := ⟨_, rfl⟩
  have HMe := Lib.hid hMe
  rw [← hMe] at hM ⊢
  have hb1 := al_t w (rcB a b x r M ca nb cb nx cx nr cr)
  have h1 := RcBx.new (x := x) M ca nb cb nx cx nr cr h
  obtain ⟨pb, hpb⟩ : ∃ pb, pb = w.heap.size := ⟨_, rfl⟩
  have HX : Hid (RcBx pb a b x r M ca nb cb nx cx nr cr L bd rows (w.alloc (rcB a b x r M ca nb cb nx cx nr cr)) ∧ Below w.heap.size w (w.alloc (rcB a b x r M ca nb cb nx cx nr cr))) := by rw [hpb]; exact ⟨h1, hb1⟩
  have HG := Lib.hid hG
  clear h h1 hb1 hG hMe
  go_enter Try.func59, Try.ntmps59
  go_upto_region 1 with fail
  refine abs_world (Q := fun W => Code.wp _ _ _ _ W) (F := fun W => RcBx pb a b x r M ca nb cb nx cx nr cr L bd rows W ∧ Below w.heap.size w W) _ HX.out ?_
  rw [show (Value.pointer (some ⟨w.heap.size, 0, none⟩)) = Value.pointer (some ⟨pb, 0, none⟩) by rw [hpb]]
  clear HX hpb
  rintro W1 ⟨h1, hb1⟩
  have HR : Hid (∀ W, Below W1.heap.size W1 W → RcBx pb a b x r M ca nb cb nx cx nr cr L bd rows W) := fun W hb => h1.to hb
  have HB1 := Lib.hid hb1
  have c0 := h1.c0
  obtain ⟨w4, hmk, ho4, hb4⟩ := mk_vs M (by omega) W1
  have h4 := (owns_nils (B := W1.heap.size) (X := []) Owns.nil M).add hb4 (Nat.le_refl _) ho4
  obtain ⟨kg, hkg⟩ : ∃ kg, kg = W1.heap.size := ⟨_, rfl⟩
  rw [← hkg] at hmk
  have HX4 : Hid (KdE W1.heap.size (.slice (some ⟨kg, 0, none⟩) M M) (kidsR L 0) [] w4 ∧ Below W1.heap.size W1 w4) := by
    rw [kidsR_zero, ← HMe.out, hkg]
    exact ⟨⟨_, h4, by rw [List.length_replicate, List.length_replicate]⟩, hb4⟩
  clear h1 hb1 h4 ho4 hb4 hkg
  go_upto_region 2 with fail
  clear c0 hmk
  go_wp2
  go_loopw [4, 5, 6] (fun s4 s5 s6 wr => ∃ (m : Nat) (v5 v6 : Value), m ≤ M ∧ s4 = .int .i64 (m : Int) ∧ v5 = s5 ∧ v6 = s6 ∧ Hid (KdE W1.heap.size (.slice (some ⟨kg, 0, none⟩) M M) (kidsR L m) [] wr ∧ Below W1.heap.size W1 wr)) (fun s4 _ _ _ => M - (intOf s4).toNat)
  case atStart => exact ⟨0, _, _, Nat.zero_le _, rfl, rfl, rfl, HX4.out⟩
  case round =>
    obtain ⟨m, v5, v6, hm, rfl, rfl, rfl, HX⟩ := hrel
    clear HX4
    obtain ⟨W6, hW6⟩ : ∃ x : World, x = wr := ⟨_, rfl⟩
    rw [← hW6] at HX ⊢
    clear hW6
    have c0 := (HR.out W6 HX.out.2).c0
    by_cases hlt : m < M
    case neg =>
      have hmm : m = L.length := by have := HMe.out; omega
      have hX := HX.out
      rw [hmm] at hX
      have HQ : Hid (KdPost L w (.returned (.slice (some ⟨kg, 0, none⟩) M M)) W6) := ⟨_, rfl, hX.1.more HB1.out.size, HB1.out.trans (hX.2.mono HB1.out.size)⟩
      clear hX HX hmm
      go_wp2
      go_ret
      exact HQ.out
    case pos =>
      have hmL : m < L.length := by have := HMe.out; omega
      have hmI : (m : Int) < (M : Int) := by omega
      have hm0 : (0 : Int) ≤ (m : Int) := by omega
      have HJm : Hid (m + 1 ≤ M ∧ m < M) := by show _ ∧ _; omega
      have HX7 : Hid (KdE W1.heap.size (.slice (some ⟨kg, 0, none⟩) M M) (kidsQ L m 0) [] W6 ∧ Below W1.heap.size W1 W6) := by
        rw [kidsQ_zero]; exact HX.out
      clear HX
      go_upto_region 5 with fail
      clear c0
      go_wp2
      go_loopw [5, 6] (fun s5 s6 wr => ∃ (q : Nat) (v6 : Value), q ≤ (parN L m).length ∧ s5 = .int .i64 (q : Int) ∧ v6 = s6 ∧ Hid (KdE W1.heap.size (.slice (some ⟨kg, 0, none⟩) M M) (kidsQ L m q) [] wr ∧ Below W1.heap.size W1 wr)) (fun s5 _ _ => (parN L m).length - (intOf s5).toNat)
      case atStart => exact ⟨0, _, Nat.zero_le _, rfl, rfl, HX7.out⟩
      case round =>
        obtain ⟨q, v6', hq, rfl, rfl, HX⟩ := hrel
        clear HX7
        obtain ⟨W8, hW8⟩ : ∃ x : World, x = wr := ⟨_, rfl⟩
        rw [← hW8] at HX ⊢
        clear hW8
        have hBs : W1.heap.size ≤ W8.heap.size := HX.out.2.size
        have h8 := HR.out W8 HX.out.2
        have c0 := h8.c0
        obtain ⟨lb, loff, l, A', C', ea, -, hl, -, -, l2, -, hsl⟩ := h8.at_.lp.at_ (j := m) hmL
        subst ea
        have hpar : parN L m = l.par := by unfold parN; rw [List.getD_eq_getElem?_getD, hl]; rfl
        obtain ⟨Q, hQ⟩ : ∃ Q, Q = l.par.length := ⟨_, rfl⟩
        have hQ26 : Q ≤ 2600 := by
          have h1 := belowK_len HG.out (next := [(m : Int)]) (fun x hx => ⟨m, List.mem_singleton.1 hx, hmL⟩) 1 (Nat.le_refl _)
          have h2 := belowK_next (lp := L) (next := [(m : Int)]) (k := 0) rfl
          rw [h2, List.length_append, Int.toNat_natCast, hpar] at h1
          have := HMe.out
          omega
        rw [hpar, ← hQ] at hq
        rw [← hQ] at l2
        have HPar := Lib.hid hpar
        have HQe := Lib.hid hQ
        have hcap : (0 : Int) ≤ (q : Int) := by omega
        by_cases hqQ : q < Q
        case neg =>
          have hqq : q = (parN L m).length := by have := HPar.out; have := HQe.out; rw [HPar.out, ← HQe.out]; omega
          have hX := HX.out
          rw [hqq, kidsQ_end] at hX
          have HQ := Lib.hid hX
          clear hX HX hqq h8 hl hpar hQ hsl hBs
          go_wp2
          go_roundw
          case rel => exact ⟨m + 1, _, _, HJm.out.1, by go_num, rfl, rfl, HQ.out⟩
          case measure => simp [intOf]; have := HJm.out; omega
        case pos =>
          obtain ⟨pg, poff, xk, ev, -, hx, x0⟩ := hsl.at_ (k := q) (by omega)
          subst ev
          obtain ⟨k, e, hkm, -, -⟩ := (HG.out.par m hmL).2 xk (by rw [hpar]; exact List.mem_of_getElem? hx)
          subst e
          obtain ⟨r1, r2⟩ := kidsQ_next (lp := L) (m := m) (q := q) (k := k) (HG.out.par m hmL).1 (by rw [hpar]; exact hx) (by omega)
          obtain ⟨a1, c1, A2, c2, w', t0, hr9, hf, t1, hQ2, hb2⟩ := HX.out.1.grow hBs r1 (by have := kidsM_len L m k; omega) (m : Int)
          rw [← r2] at hQ2
          obtain ⟨R, hR⟩ : ∃ R, R = (kidsM L m k).length := ⟨_, rfl⟩
          rw [← hR] at t0 hr9 t1 hQ2 hb2
          have HQ := Lib.hid (And.intro hQ2 (HX.out.2.trans hb2))
          have hfk := hf k
          have hkM : (k : Int) < (M : Int) := by omega
          have hk0 : (0 : Int) ≤ (k : Int) := by omega
          have hqI : (q : Int) < (Q : Int) := by omega
          have HJq : Hid (q + 1 ≤ (parN L m).length ∧ q < (parN L m).length) := by show _ ∧ _; rw [HPar.out, ← HQe.out]; omega
          clear hf hQ2 hb2 HX hBs hx r1 r2 hR h8 hl hpar hQ hsl
          go_wp2_with (at_builtin; refine wpList_append_run _ rfl _ _ _ _ rfl _ _ (by rfl) (by rfl) hr9 ?_)
          go_roundw
          case rel => exact ⟨q + 1, _, HJq.out.1, by go_num, rfl, HQ.out⟩
          case measure => simp [intOf]; have := HJq.out; omega
end Go.Proofs.Ytbibndpkcilblaa
