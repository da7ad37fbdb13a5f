/- Layer 28, the reference: running. -/
import Derived.Test.YtbibndpkcilblaaKG19
import Derived.Deep.DeepCutAuto
namespace Go.Proofs.Ytbibndpkcilblaa
open Go.RowKit Go.Shelf Go.Sort
set_option maxRecDepth 100000

/-! A row of marks that a call owns. -/
def pxF (g n : Nat) (F : Nat → Bool) : Own := ⟨4, 1, n, .slice (some ⟨g, 0, none⟩) n n, (List.range n).map fun k => .bool (F k)⟩
theorem pxF_at {w : World} {B g n : Nat} {F : Nat → Bool} (h : (pxF g n F).lies w B) : BlAt g n F w ∧ (∀ k, w.frozen? ⟨g, k, none⟩ = false) ∧ B ≤ g := by
  have h0 : w.ownsRow B 4 1 (.slice (some ⟨g, 0, none⟩) n n) n ((List.range n).map fun k => Value.bool (F k)) := h
  have hl := World.ownsRow.lt h0 g rfl
  refine ⟨fun i hi => ?_, fun k => World.ownsRow.frozenAt h0 k, hl.1⟩
  rw [World.ownsRow.cellAt h0 i (by omega), List.getElem?_map, List.getElem?_range hi]
  rfl
def setF (F : Nat → Bool) (k : Nat) (z : Bool) : Nat → Bool := fun j => if j = k then z else F j
theorem pxF_put {w : World} {B g n : Nat} {F : Nat → Bool} {L : List Own} (h : Owns w B (pxF g n F :: L)) (k : Nat) (z : Bool) : Owns (w.setCell ⟨g, k, none⟩ (.bool z)) B (pxF g n (setF F k z) :: L) ∧ w.grownBy (w.setCell ⟨g, k, none⟩ (.bool z)) (some g) := by
  have h0 : w.ownsRow B 4 1 (.slice (some ⟨g, 0, none⟩) n n) n ((List.range n).map fun k => Value.bool (F k)) := h.head
  obtain ⟨h1, h2⟩ := World.ownsRow.stored h0 k (.bool z)
  have e : ((List.range n).map fun k => Value.bool (F k)).set k (.bool z) = (List.range n).map fun j => Value.bool (setF F k z j) := by
    apply List.ext_getElem (by simp)
    intro j h1 h2
    rw [List.getElem_set]
    simp only [List.getElem_map, List.getElem_range]
    unfold setF
    by_cases hj : k = j
    · subst hj; simp
    · rw [if_neg hj, if_neg (fun h => hj h.symm)]
  rw [e] at h1
  exact ⟨h.turn (o' := pxF g n (setF F k z)) h2 h1 (fun j hj => Or.inl hj), h2⟩
theorem info_boF : (Try.prog.info? 4).map (fun i => (i.zero, i.size, i.bytes)) = some (some (.bool false), 1, 1) := by kernel_rfl
theorem mk_marks (w : World) (n : Nat) (hn : n ≤ 1000000) : ∃ w', (Instr.makeSlice 74 (.int .i64 (n : Int)) (.int .i64 (n : Int))).run Try.prog w = .ok (.slice (some ⟨w.heap.size, 0, none⟩) n n) w' ∧ (pxF w.heap.size n (fun _ => false)).lies w' w.heap.size ∧ Below w.heap.size w w' := by
  obtain ⟨i1, hi', hz0', hz1', hz2'⟩ := info_parts info_boF
  obtain ⟨w3, hmr, hob, hgb⟩ := run_make_full (P := Try.prog) w w.heap.size 74 4 i1 (.bool false) 1 Try.underlying74 hi' hz0' hz1' .i64 .i64 n (by rw [hz2']; omega) (by unfold maxLen; omega) (Nat.le_refl _)
  have hb := (Below.refl w.heap.size w).grown hgb (Nat.le_refl _) (fun k e => by cases e)
  refine ⟨w3, hmr, ?_, hb⟩
  have e : (madeCells (Value.bool false).cells (n * 1)).toList = (List.range n).map fun _ => Value.bool false := by
    rw [Nat.mul_one, List.map_const', List.length_range]
    exact toList_madeCells_one _ _
  rw [e] at hob
  exact hob
theorem KdE.putF {B g n : Nat} {v : Value} {F : Nat → Bool} {K : List (List Int)} {X : List Own} {W : World} (h : KdE B v K (pxF g n F :: X) W) (hB : B ≤ W.heap.size) (k : Nat) (z : Bool) : KdE B v K (pxF g n (setF F k z) :: X) (W.setCell ⟨g, k, none⟩ (.bool z)) ∧ Below B W (W.setCell ⟨g, k, none⟩ (.bool z)) := by
  obtain ⟨ks, h⟩ := h
  have h1 : Owns W B (pxF g n F :: pxV v ks :: (rowsO ks K ++ X)) := (h.own.perm (List.Perm.cons _ List.perm_middle)).swap
  obtain ⟨h2, h3⟩ := pxF_put h1 k z
  exact ⟨⟨ks, h2.swap.perm (List.Perm.cons _ List.perm_middle.symm), h.len⟩, Below.of_grown h3 hB (fun j e => by cases e; exact (pxF_at h1.head).2.2)⟩
theorem KdE.ext {B g n : Nat} {v : Value} {F F' : Nat → Bool} {K : List (List Int)} {X : List Own} {W : World} (h : KdE B v K (pxF g n F :: X) W) (he : ∀ k, k < n → F k = F' k) : KdE B v K (pxF g n F' :: X) W := by
  have e : pxF g n F = pxF g n F' := by
    unfold pxF
    congr 1
    exact List.map_congr_left fun k hk => by rw [he k (List.mem_range.1 hk)]
  rw [← e]; exact h
/-- What running hands back. -/
def MkPost (M : Nat) (F : Nat → Bool) (w : World) (e : Ending) (w' : World) : Prop := ∃ g, e = .returned (.slice (some ⟨g, 0, none⟩) M M) ∧ (pxF g M F).lies w' w.heap.size ∧ Below w.heap.size w w'
theorem runD_step {lp : List Lp} {drop : List Int} {M j : Nat} (hM : M = lp.length) (hj : j + 1 ≤ M) : ∀ i, setF (runD lp drop (M - (j + 1))) j (runI lp drop (runD lp drop (M - (j + 1))) j) i = runD lp drop (M - j) i := fun i => by
  have e : M - j = (M - (j + 1)) + 1 := by omega
  rw [e]
  unfold setF
  show _ = if i = lp.length - 1 - (M - (j + 1)) then _ else _
  have e2 : lp.length - 1 - (M - (j + 1)) = j := by omega
  rw [e2]
  by_cases h : i = j
  · subst h; simp
  · rw [if_neg h, if_neg h]
set_option maxHeartbeats 8000000 in
theorem rrunning_any (a b x r : Option Addr) (ca nb cb nx cx nr cr K lv : Nat) (L : List Lp) (bound : List Int) (hG : GrN L bound K lv) (hM : L.length ≤ 2600) (bd rows : List Int) (da : Option Addr) (dc : Nat) (drop : List Int) (hD : drop.length ≤ 1000) (w : World) (h : RcAt w w.heap.size a b r L bd rows) (hd : SlI w w.heap.size da drop) :
    Calls Try.prog 36 #[rcV a b x r L.length ca nb cb nx cx nr cr, .slice da drop.length dc] w fun e w' => MkPost L.length (runF L drop) w e w' := by
  have hKd : ∀ W, RcAt W W.heap.size a b r L bd rows → Calls Try.prog 59 #[rcV a b x r L.length ca nb cb nx cx nr cr] W fun e w' => KdPost L W e w' := fun W h => rkids_any a b x r ca nb cb nx cx nr cr K lv L bound hG hM bd rows W h
  have HSd : Hid (∀ W, Below w.heap.size w W → SlI W W.heap.size da drop) := fun W hb => (hd.below hb).more hb.size
  have hHas : ∀ (W : World) (y : Int), Below w.heap.size w W → Calls Try.prog 19 #[.slice da drop.length dc, .int .i64 y] W fun e w' => e = .returned (.bool (drop.any fun z => decide (z = y))) ∧ W = w' := fun W y hb => rhas_any da dc drop y (by omega) W (HSd.out W hb)
  obtain ⟨M, hMe⟩ : ∃ M, M = L.length := ⟨_, rfl⟩
  have HMe := Lib.hid hMe
  obtain ⟨D, hDe⟩ : ∃ D, D = drop.length := ⟨_, rfl⟩
  rw [← hMe] at hM hKd ⊢
  rw [← hDe] at hHas ⊢
  have HKd := Lib.hid hKd
  have HHas := Lib.hid hHas
  have hb1 := al_t w (rcB a b x r M ca nb cb nx cx nr cr)
  have h1 := RcBx.new (x := x) M ca nb cb nx cx nr cr h
  obtain ⟨pb, hpb⟩ : ∃ pb, pb = w.heap.size := ⟨_, rfl⟩
  have HX : Hid (RcBx pb a b x r M ca nb cb nx cx nr cr L bd rows (w.alloc (rcB a b x r M ca nb cb nx cx nr cr)) ∧ Below w.heap.size w (w.alloc (rcB a b x r M ca nb cb nx cx nr cr))) := by rw [hpb]; exact ⟨h1, hb1⟩
  have HG := Lib.hid hG
  clear h h1 hb1 hG hMe hDe hd hKd hHas hD
  go_enter Try.func36, Try.ntmps36
  go_upto_region 1 with fail
  refine abs_world (Q := fun W => Code.wp _ _ _ _ W) (F := fun W => RcBx pb a b x r M ca nb cb nx cx nr cr L bd rows W ∧ Below w.heap.size w W) _ HX.out ?_
  rw [show (Value.pointer (some ⟨w.heap.size, 0, none⟩)) = Value.pointer (some ⟨pb, 0, none⟩) by rw [hpb]]
  clear HX hpb
  rintro W1 ⟨h1, hb1⟩
  have HR : Hid (∀ W, Below W1.heap.size W1 W → RcBx pb a b x r M ca nb cb nx cx nr cr L bd rows W) := fun W hb => h1.to hb
  have HB1 := Lib.hid hb1
  have HK1 := Lib.hid (HKd.out W1 h1.at_)
  have c0 := h1.c0
  have c1 := h1.c1
  have c2 := h1.c2
  have c3 := h1.c3
  clear h1 hb1 HKd
  go_upto_region 2 with (go_at_call 59; refine HK1.out.mono ?_; rintro e w2 ⟨kv, rfl, hk, hb2⟩; obtain ⟨ka, kc, rfl⟩ := hk.form (n := M) (by rw [kidsA_len]; exact HMe.out.symm))
  have c0 := (HR.out w2 hb2).c0
  obtain ⟨w3, hmk, ho3, hb3⟩ := mk_marks w2 M (by omega)
  have hk3 := hk.add hb3 hb2.size ho3
  obtain ⟨g, hg⟩ : ∃ g, g = w2.heap.size := ⟨_, rfl⟩
  rw [← hg] at hmk hk3
  have HX3 : Hid (KdE W1.heap.size (.slice ka M kc) (kidsA L) (pxF g M (runD L drop (M - M)) :: []) w3 ∧ Below W1.heap.size W1 w3) := by
    rw [Nat.sub_self]
    exact ⟨hk3, hb2.trans (hb3.mono hb2.size)⟩
  clear hk hb2 ho3 hb3 hk3 hg HK1
  go_upto_region 3 with fail
  clear hmk c0
  have c0 := (HR.out w3 HX3.out.2).c0
  have hw1 : IntKind.i64.wrap ((M : Int) - 1) = (M : Int) - 1 := IntWalk.i64_in _ (by omega)
  go_wp2
  go_loopw [7, 8, 9] (fun s7 s8 s9 wr => ∃ (u : Nat) (v8 v9 : Value), u ≤ M ∧ s7 = .int .i64 ((u : Int) - 1) ∧ v8 = s8 ∧ v9 = s9 ∧ Hid (KdE W1.heap.size (.slice ka M kc) (kidsA L) (pxF g M (runD L drop (M - u)) :: []) wr ∧ Below W1.heap.size W1 wr)) (fun s7 _ _ _ => (intOf s7 + 1).toNat)
  case atStart => exact ⟨M, _, _, Nat.le_refl _, rfl, rfl, rfl, HX3.out⟩
  case round =>
    obtain ⟨u, v8, v9, hu, rfl, rfl, rfl, HX⟩ := hrel
    clear HX3 c0 c1 c2 c3 hw1
    obtain ⟨W6, hW6⟩ : ∃ x : World, x = wr := ⟨_, rfl⟩
    rw [← hW6] at HX ⊢
    clear hW6
    by_cases hu0 : u = 0
    case pos =>
      subst hu0
      rw [show ((0 : Nat) : Int) - 1 = -1 from rfl]
      have hX := HX.out
      have HQ : Hid (MkPost M (runF L drop) w (.returned (.slice (some ⟨g, 0, none⟩) M M)) W6) := by
        refine ⟨g, rfl, ?_, HB1.out.trans (hX.2.mono HB1.out.size)⟩
        have h := own_more (hX.1.mem List.mem_cons_self) HB1.out.size
        rw [Nat.sub_zero, HMe.out] at h
        rw [HMe.out]
        exact h
      clear hX HX
      go_wp2
      go_ret
      exact HQ.out
    case neg =>
      obtain ⟨j, rfl⟩ : ∃ j, u = j + 1 := ⟨u - 1, by omega⟩
      rw [show ((j + 1 : Nat) : Int) - 1 = (j : Int) by omega]
      have hjM : j < M := by omega
      have hjL : j < L.length := by have := HMe.out; omega
      have hj26 : j ≤ 2600 := by omega
      have hjI : (j : Int) < (M : Int) := by omega
      have hj0 : (0 : Int) ≤ (j : Int) := by omega
      have h6 := HR.out W6 HX.out.2
      have c0 := h6.c0
      obtain ⟨lb, loff, l, A', C', ea, -, hl, l0, -, -, -, -⟩ := h6.at_.lp.at_ (j := j) hjL
      subst ea
      have hrow : rowN L j = l.row := by unfold rowN; rw [List.getD_eq_getElem?_getD, hl]; rfl
      obtain ⟨R, hRe⟩ : ∃ R, R = (kidsN L j).map fun q : Nat => (q : Int) := ⟨_, rfl⟩
      have hkr := kidsA_at hjL
      rw [← hRe] at hkr
      obtain ⟨kb, koff, row', A2, C2, ek, -, hrr, k0, hks⟩ := (HX.out.1.read).at_ (k := j) (by rw [kidsA_len]; exact hjL)
      rw [hkr] at hrr
      cases hrr
      subst ek
      obtain ⟨KL, hKL⟩ : ∃ KL, KL = R.length := ⟨_, rfl⟩
      rw [← hKL] at k0
      have hKL26 : KL ≤ 2600 := by
        rw [hKL, hRe, List.length_map]
        unfold kidsN
        exact Nat.le_trans (List.length_filter_le _ _) (by rw [List.length_range]; have := HMe.out; omega)
      obtain ⟨kz, hkz⟩ : ∃ kz, kz = decide (0 < KL) := ⟨_, rfl⟩
      obtain ⟨rz, hrz⟩ : ∃ rz, rz = decide (0 < l.row) := ⟨_, rfl⟩
      have e1 : decide ((KL : Int) > 0) = kz := by rw [hkz, decide_eq_decide]; omega
      have e1' : decide (0 < KL) = kz := hkz.symm
      have e2 : decide (0 < l.row) = rz := hrz.symm
      obtain ⟨F, hF⟩ : ∃ F, F = runD L drop (M - (j + 1)) := ⟨_, rfl⟩
      have HV : Hid (runI L drop F j = (((kz && rz) && (kidsN L j).all F) || decide ((j : Int) ∈ drop))) := by
        show _ = _
        unfold runI
        rw [hkz, hrz, hrow]
        have : decide (kidsN L j ≠ []) = decide (0 < KL) := by
          rw [decide_eq_decide, hKL, hRe, List.length_map, List.length_pos_iff]
        rw [this]
      have HStep := Lib.hid (runD_step (lp := L) (drop := drop) (j := j) HMe.out hu)
      rw [← hF] at HX HStep
      have HRe := Lib.hid hRe
      have HKl := Lib.hid hKL
      have HX6 := HX
      have HJ : Hid (j ≤ M) := by show _ ≤ _; omega
      clear HX hl hrow hRe hkr hKL hkz hrz hF h6 hjL hu hu0 hks
      go_upto_region 6 with fail
      go_cut [8] (fun s8 wx => s8 = .bool (kz && rz) ∧ Hid (KdE W1.heap.size (.slice (some ⟨kb, koff, none⟩) M kc) (kidsA L) (pxF g M F :: []) wx ∧ Below W1.heap.size W1 wx))
      case first =>
        cases kz with
        | true =>
          go_wp2_with fail
          go_meet
          exact ⟨rfl, HX6.out⟩
        | false =>
          go_wp2_with fail
          go_meet
          exact ⟨rfl, HX6.out⟩
      case rest =>
        obtain ⟨rfl, HX7⟩ := hcut
        obtain ⟨a0, ha0⟩ : ∃ a0, a0 = (kz && rz) := ⟨_, rfl⟩
        rw [← ha0] at HV
        rw [← ha0]
        clear ha0 e1 e1' e2 c0 l0 k0 HX6
        have HX8 := HX7
        clear HX7
        go_wp2
        go_loopw [8, 9] (fun s8 s9 wr => ∃ (q : Nat) (zq : Bool), q ≤ KL ∧ s9 = .int .i64 (q : Int) ∧ s8 = .bool zq ∧ Hid (zq = (a0 && ((kidsN L j).take q).all F)) ∧ Hid (KdE W1.heap.size (.slice (some ⟨kb, koff, none⟩) M kc) (kidsA L) (pxF g M F :: []) wr ∧ Below W1.heap.size W1 wr)) (fun _ s9 _ => KL - (intOf s9).toNat)
        case atStart => exact ⟨0, a0, Nat.zero_le _, rfl, rfl, (by show a0 = _; simp), HX8.out⟩
        case round =>
          obtain ⟨q, zq, hq, rfl, rfl, Hz, HX⟩ := hrel
          clear HX8
          obtain ⟨W8, hW8⟩ : ∃ x : World, x = wr := ⟨_, rfl⟩
          rw [← hW8] at HX ⊢
          clear hW8
          obtain ⟨kb', koff', row', A3, C3, ek, -, hrr, k0, hks⟩ := (HX.out.1.read).at_ (k := j) (by rw [kidsA_len]; have := HMe.out; omega)
          cases ek
          rw [kidsA_at (by have := HMe.out; omega), ← HRe.out] at hrr
          cases hrr
          rw [← HKl.out] at k0
          by_cases hqK : q < KL
          case pos =>
            obtain ⟨pg, poff, xk, ev, -, hx, x0⟩ := hks.at_ (k := q) (by have := HKl.out; omega)
            subst ev
            rw [HRe.out, List.getElem?_map] at hx
            cases hkq : (kidsN L j)[q]? with
            | none => rw [hkq] at hx; cases hx
            | some k =>
            rw [hkq] at hx
            simp only [Option.map_some, Option.some.injEq] at hx
            subst hx
            have hkM : k < M := by have := (mem_kids.1 (List.mem_of_getElem? hkq)).1; have := HMe.out; omega
            obtain ⟨hbl, -, -⟩ := pxF_at (HX.out.1.mem List.mem_cons_self)
            have b0 := hbl k hkM
            obtain ⟨fk, hfk⟩ : ∃ fk, fk = F k := ⟨_, rfl⟩
            rw [← hfk] at b0
            have HZ2 : Hid ((zq && fk) = (a0 && ((kidsN L j).take (q + 1)).all F)) := by
              show _ = _
              rw [List.take_add_one, hkq, Hz.out, hfk]
              simp [Bool.and_assoc]
            have hkI : (k : Int) < (M : Int) := by omega
            have hk0 : (0 : Int) ≤ (k : Int) := by omega
            have hqI : (q : Int) < (KL : Int) := by omega
            have hq0 : (0 : Int) ≤ (q : Int) := by omega
            have HJq : Hid (q + 1 ≤ KL ∧ q < KL) := by show _ ∧ _; omega
            have HX9 := HX
            clear HX Hz hbl hfk hks hkq
            cases zq with
            | true =>
              go_wp2
              go_roundw
              case rel => exact ⟨q + 1, fk, HJq.out.1, by go_num, rfl, HZ2.out, HX9.out⟩
              case measure => simp [intOf]; have := HJq.out; omega
            | false =>
              go_wp2
              go_roundw
              case rel => exact ⟨q + 1, false, HJq.out.1, by go_num, rfl, HZ2.out, HX9.out⟩
              case measure => simp [intOf]; have := HJq.out; omega
          case neg =>
            have hqq : q = (kidsN L j).length := by
              have h1 := HKl.out
              rw [HRe.out, List.length_map] at h1
              omega
            have hz := Hz.out
            rw [hqq, List.take_length] at hz
            have HV2 : Hid (runI L drop F j = (zq || decide ((j : Int) ∈ drop))) := by
              show _ = _
              rw [HV.out, hz]
            have hany : (drop.any fun z => decide (z = (j : Int))) = decide ((j : Int) ∈ drop) := by
              rw [Bool.eq_iff_iff, List.any_eq_true, decide_eq_true_eq]
              constructor
              · rintro ⟨z, h1, h2⟩
                rw [← of_decide_eq_true h2]; exact h1
              · exact fun h => ⟨_, h, decide_eq_true rfl⟩
            have hHs := HHas.out W8 (j : Int) (HB1.out.trans (HX.out.2.mono HB1.out.size))
            rw [hany] at hHs
            obtain ⟨dz, hdz⟩ : ∃ dz, dz = decide ((j : Int) ∈ drop) := ⟨_, rfl⟩
            rw [← hdz] at hHs HV2
            have HHs := Lib.hid hHs
            obtain ⟨hbl, hfz, -⟩ := pxF_at (HX.out.1.mem List.mem_cons_self)
            have b0 := hbl j (by omega)
            have hf0 := hfz j
            obtain ⟨h9, hb9⟩ := HX.out.1.putF HX.out.2.size j (runI L drop F j)
            have HQ : Hid (KdE W1.heap.size (.slice (some ⟨kb, koff, none⟩) M kc) (kidsA L) (pxF g M (runD L drop (M - j)) :: []) (W8.setCell ⟨g, j, none⟩ (.bool (zq || dz))) ∧ Below W1.heap.size W1 (W8.setCell ⟨g, j, none⟩ (.bool (zq || dz)))) := by
              rw [← HV2.out]
              exact ⟨h9.ext fun k _ => HStep.out k, HX.out.2.trans hb9⟩
            have hw2 : IntKind.i64.wrap ((j : Int) - 1) = (j : Int) - 1 := IntWalk.i64_in _ (by omega)
            clear hany hHs hdz hbl hfz h9 hb9 HX hz hqq Hz hks HV
            cases zq with
            | true =>
              go_wp2
              go_roundw
              case rel => exact ⟨j, _, _, HJ.out, rfl, rfl, rfl, HQ.out⟩
              case measure => simp [intOf]
            | false =>
              go_wp2_with (go_at_call 19; refine HHs.out.mono ?_; rintro e w9 ⟨rfl, rfl⟩)
              go_roundw
              case rel => exact ⟨j, _, _, HJ.out, rfl, rfl, rfl, HQ.out⟩
              case measure => simp [intOf]
end Go.Proofs.Ytbibndpkcilblaa
