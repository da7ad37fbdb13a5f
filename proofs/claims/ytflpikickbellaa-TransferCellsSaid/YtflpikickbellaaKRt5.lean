/- Layer 32: the reference's Order. -/
import Derived.Test.YtflpikickbellaaKG13
import Derived.Test.YtflpikickbellaaKG10
namespace Go.Proofs.Ytflpikickbellaa
open Go.RowKit Go.Shelf Go.Sort
set_option maxRecDepth 100000

/-- What Order, and its like, hand back. -/
def LPost (w : World) (r : List Int × Int) (e : Ending) (w' : World) : Prop := ∃ a c, e = .returned (.tuple #[.slice a r.1.length c, .int .i64 r.2]) ∧ SlI w' w'.heap.size a r.1 ∧ Below w.heap.size w w'
theorem LPost.none {w w' : World} {r : List Int × Int} {x : Int} (h : r = ([], x)) (hb : Below w.heap.size w w') : LPost w r (.returned (.tuple #[.slice none 0 0, .int .i64 x])) w' := by
  subst h
  exact ⟨Option.none, 0, rfl, SlI.nil, hb⟩
theorem LPost.some_ {w w' : World} {r : List Int × Int} {l : List Int} {a : Option Addr} {c : Nat} (h : r = (l, 0)) (hs : SlI w' w'.heap.size a l) (hb : Below w.heap.size w w') : LPost w r (.returned (.tuple #[.slice a l.length c, .int .i64 0])) w' := by
  subst h
  exact ⟨a, c, rfl, hs, hb⟩
theorem ordE_e {s : Sft} (h : sftE s ≠ 0) : ordE s = ([], sftE s) := by unfold ordE; rw [if_pos h]
theorem ordE_none {s : Sft} (h : sftE s = 0) (ho : outerN s s.n (fun _ => false) [] = none) : ordE s = ([], 6) := by unfold ordE; rw [if_neg (by simpa using h), ho]
theorem ordE_some {s : Sft} {l : List Int} (h : sftE s = 0) (ho : outerN s s.n (fun _ => false) [] = some l) : ordE s = (l, 0) := by unfold ordE; rw [if_neg (by simpa using h), ho]
def cntM (s : Sft) (i : Nat) : Nat := (List.range i).countP (movedN s)
theorem cntM_next (s : Sft) (i : Nat) : cntM s (i + 1) = cntM s i + if movedN s i then 1 else 0 := by
  unfold cntM
  rw [List.range_succ, List.countP_append]
  congr 1
  cases h : movedN s i with
  | true => rw [List.countP_cons_of_pos h]; rfl
  | false => rw [List.countP_cons_of_neg (by rw [h]; simp)]; rfl
theorem cntM_le (s : Sft) (i : Nat) : cntM s i ≤ i := by
  have := List.countP_le_length (p := movedN s) (l := List.range i)
  rwa [List.length_range] at this
theorem left_start (s : Sft) : leftN s (fun _ => false) = cntM s s.n := by
  unfold leftN cntM
  apply List.countP_congr
  intro i _
  unfold waitN
  simp
def boolN : Value → Nat
  | .bool true => 1
  | _ => 0
structure OrA (W1 : World) (g n : Nat) (come : Nat → Bool) (v : Value) (out : List Int) (W : World) : Prop where
  own : Owns W W1.heap.size [pxB g n come, pxJ v out]
  lo : Below W1.heap.size W1 W
theorem OrA.to {W1 W W' : World} {g n : Nat} {come : Nat → Bool} {v : Value} {out : List Int} (h : OrA W1 g n come v out W) (hb : Below W.heap.size W W') : OrA W1 g n come v out W' :=
  ⟨h.own.to hb, h.lo.trans (hb.mono h.lo.size)⟩
theorem OrA.form {W1 W : World} {g n : Nat} {come : Nat → Bool} {v : Value} {out : List Int} (h : OrA W1 g n come v out W) : ∃ a c, v = .slice a out.length c := pxJ_form h.own.swap
/-- The search for the loop that comes next within a stop. -/
def L4 (s : Sft) (t : Int) (come : Nat → Bool) (out : List Int) (i : Nat) (more waits : Bool) (come' : Nat → Bool) (out' : List Int) : Prop :=
  (more = false ∧ come' = come ∧ out' = out ∧ waits = (List.range i).any (atN s come t) ∧ ∀ j, j < i → (atN s come t j && freeN s come t j) = false) ∨
  (more = true ∧ ∃ j, pickN s come t = some j ∧ come' = putN come j ∧ out' = out ++ [(j : Int)] ∧ waits = true)
theorem L4.start (s : Sft) (t : Int) (come : Nat → Bool) (out : List Int) : L4 s t come out 0 false false come out := Or.inl ⟨rfl, rfl, rfl, rfl, fun j hj => absurd hj (Nat.not_lt_zero j)⟩
theorem L4.next {s : Sft} {t : Int} {come : Nat → Bool} {out : List Int} {i : Nat} {waits w2 : Bool} (h : L4 s t come out i false waits come out) (h1 : (waits || atN s come t i) = w2) (h2 : (atN s come t i && freeN s come t i) = false) : L4 s t come out (i + 1) false w2 come out := by
  rcases h with ⟨-, -, -, h3, h4⟩ | ⟨h3, -⟩
  · refine Or.inl ⟨rfl, rfl, rfl, ?_, fun j hj => ?_⟩
    · rw [← h1, h3, List.range_succ, List.any_append]; simp
    · by_cases e : j = i
      · subst e; exact h2
      · exact h4 j (by omega)
  · cases h3
theorem L4.pick {s : Sft} {t : Int} {come : Nat → Bool} {out : List Int} {i : Nat} {waits : Bool} (h : L4 s t come out i false waits come out) (hi : i < s.n) (h2 : (atN s come t i && freeN s come t i) = true) : pickN s come t = some i := by
  rcases h with ⟨-, -, -, -, h4⟩ | ⟨h3, -⟩
  · unfold pickN
    rw [List.find?_eq_some_iff_getElem]
    refine ⟨h2, i, by rw [List.length_range]; exact hi, List.getElem_range .., fun j hj => ?_⟩
    rw [List.getElem_range, h4 j hj]; rfl
  · cases h3
theorem L4.none {s : Sft} {t : Int} {come : Nat → Bool} {out : List Int} {i : Nat} {waits : Bool} (h : L4 s t come out i false waits come out) (hi : s.n ≤ i) (hi2 : i ≤ s.n) : waits = hasN s come t ∧ pickN s come t = Option.none := by
  obtain rfl : i = s.n := by omega
  rcases h with ⟨-, -, -, h3, h4⟩ | ⟨h3, -⟩
  · refine ⟨h3, ?_⟩
    unfold pickN
    rw [List.find?_eq_none]
    intro j hj
    rw [h4 j (List.mem_range.1 hj)]; simp
  · cases h3
set_option maxHeartbeats 32000000 in
theorem rorder_any (A F : Option Addr) (c fc : Nat) (s : Sft) (hl : s.to_.length ≤ 4611686018427387904) (hf : s.first.length ≤ 4611686018427387904) (w : World) (h : SfAt A F s w) :
    Calls Try.prog 10 #[sftV A F c fc s] w fun e w' => LPost w (ordE s) e w' := by
  have hb0 := al_t w (sftB A F c fc s)
  have HX0 : Hid (SfBx w.heap.size A F c fc s (w.alloc (sftB A F c fc s)) ∧ Below w.heap.size w (w.alloc (sftB A F c fc s))) := ⟨SfBx.new c fc h, hb0⟩
  have HCh : Hid (∀ W, Below w.heap.size w W → Calls Try.prog 16 #[sftV A F c fc s] W fun e w' => e = .returned (.int .i64 (sftE s)) ∧ Below W.heap.size W w') := fun W hb => rchk_any A F c fc s hl hf W (h.to hb)
  have c0 := HX0.out.1.c0
  have c1 := HX0.out.1.c1
  obtain ⟨r, hr⟩ : ∃ r, r = ordE s := ⟨_, rfl⟩
  rw [← hr]
  obtain ⟨pb, hpb⟩ : ∃ pb, pb = w.heap.size := ⟨_, rfl⟩
  clear h hb0
  by_cases hE : sftE s = 0
  case neg =>
    have HR : Hid (r = ([], sftE s)) := by show _ = _; rw [hr, ordE_e hE]
    have d0 : (sftE s != 0) = true := by simpa using hE
    have HC1 := Lib.hid (HCh.out _ HX0.out.2)
    have HX2 : Hid (∀ W, Below (w.alloc (sftB A F c fc s)).heap.size (w.alloc (sftB A F c fc s)) W → W.cell? ⟨w.heap.size, 0, none⟩ = some (.slice A s.to_.length c) ∧ W.cell? ⟨w.heap.size, 1, none⟩ = some (.slice F s.first.length fc) ∧ Below w.heap.size w W) := fun W hb => ⟨(HX0.out.1.to hb).c0, (HX0.out.1.to hb).c1, HX0.out.2.trans (hb.mono HX0.out.2.size)⟩
    obtain ⟨x, hx⟩ : ∃ x, x = sftE s := ⟨_, rfl⟩
    rw [← hx] at HR d0 HC1
    simp only [← hx] at HCh
    clear hr hE hx hpb
    go_enter Try.func10, Try.ntmps10
    go_wp2_with fail
    refine HC1.out.mono ?_
    rintro e w1 ⟨rfl, hb1⟩
    obtain ⟨e0, e1, hb2⟩ := HX2.out w1 hb1
    have HC2 := Lib.hid (HCh.out w1 hb2)
    have HB2 := Lib.hid hb2
    clear hb1 hb2 c0 c1
    go_wp2_with fail
    refine HC2.out.mono ?_
    rintro e w2 ⟨rfl, hb3⟩
    have HB3 := Lib.hid (HB2.out.trans (hb3.mono HB2.out.size))
    clear hb3
    go_wp2
    go_ret2
    exact LPost.none HR.out HB3.out
  case pos =>
  have hs := sftE_ok hE
  have HS := Lib.hid hs
  have hn40 : s.to_.length ≤ 40 := hs.len
  have HNo : Hid (outerN s s.n (fun _ => false) [] = none → r = ([], 6)) := fun ho => hr.trans (ordE_none hE ho)
  have HSo : Hid (∀ l, outerN s s.n (fun _ => false) [] = some l → r = (l, 0)) := fun l ho => hr.trans (ordE_some hE ho)
  have HC1 := Lib.hid (HCh.out _ HX0.out.2)
  rw [hE] at HC1
  clear hr HCh hE hs
  go_enter Try.func10, Try.ntmps10
  go_upto_region 3 with ((go_at_call 16; refine HC1.out.mono ?_; rintro e w1 ⟨rfl, hb1⟩))
  refine abs_world (Q := fun W => Code.wp _ _ _ _ W) (F := fun W => SfBx w.heap.size A F c fc s W ∧ Below w.heap.size w W) _ ⟨HX0.out.1.to hb1, HX0.out.2.trans (hb1.mono HX0.out.2.size)⟩ ?_
  clear HX0 c0 c1 hb1 HC1
  rintro W1 ⟨hx, hb1⟩
  rw [← hpb] at hx ⊢
  have HX1 := Lib.hid (And.intro hx hb1)
  have c0 := hx.c0
  have c1 := hx.c1
  clear hx hb1 hpb
  have HXs : Hid (∀ W, Below W1.heap.size W1 W → SfBx pb A F c fc s W ∧ Below w.heap.size w W) := fun W hb => ⟨HX1.out.1.to hb, HX1.out.2.trans (hb.mono HX1.out.2.size)⟩
  obtain ⟨w2, hmk, hO2, hb2⟩ := mk_boolsT W1 s.to_.length (by omega)
  have HW2 : Hid (OrA W1 W1.heap.size s.n (fun _ => false) (.slice none 0 0) [] w2) := ⟨(hO2.none 3 1).swap, hb2⟩
  clear hO2 hb2
  go_upto_region 4 with fail
  refine abs_world (Q := fun W => Code.wp _ _ _ _ W) (F := fun W => OrA W1 W1.heap.size s.n (fun _ => false) (.slice none 0 0) [] W) _ HW2.out ?_
  clear HW2 hmk c0 c1
  obtain ⟨g, hg⟩ : ∃ g, g = W1.heap.size := ⟨_, rfl⟩
  intro W2 h2
  have HO2 : Hid (OrA W1 g s.n (fun _ => false) (.slice none 0 0) [] W2) := by rw [hg]; exact h2
  rw [show (Value.slice (some ⟨W1.heap.size, 0, none⟩) s.to_.length s.to_.length) = Value.slice (some ⟨g, 0, none⟩) s.to_.length s.to_.length by rw [hg]]
  clear h2 hg
  go_wp2
  go_loopw [5, 6] (fun s5 s6 wr => ∃ i : Nat, i ≤ s.to_.length ∧ s6 = .int .i64 (i : Int) ∧ s5 = .int .i64 ((cntM s i : Nat) : Int) ∧ Hid (OrA W1 g s.n (fun _ => false) (.slice none 0 0) [] wr)) (fun _ s6 _ => s.to_.length - (intOf s6).toNat)
  case atStart => exact ⟨0, Nat.zero_le _, rfl, rfl, HO2.out⟩
  case round =>
    obtain ⟨i, hi, rfl, rfl, HO3⟩ := hrel
    clear HO2
    obtain ⟨W3, hW3⟩ : ∃ W3 : World, W3 = wr := ⟨_, rfl⟩
    rw [← hW3] at HO3 ⊢
    clear hW3
    have c0 := (HXs.out W3 HO3.out.lo).1.c0
    have c1 := (HXs.out W3 HO3.out.lo).1.c1
    by_cases hlt : i < s.to_.length
    case pos =>
      have HM := Lib.hid (rmoved_any A F c fc s HS.out hf i hlt W3 (HXs.out W3 HO3.out.lo).1.at_)
      have HNx := Lib.hid (cntM_next s i)
      have hle := cntM_le s i
      obtain ⟨k, hk⟩ : ∃ k, k = cntM s i := ⟨_, rfl⟩
      rw [← hk] at HNx hle ⊢
      cases hm : movedN s i with
      | true =>
        rw [hm] at HM HNx
        clear hm hk
        go_wp2_with fail
        refine HM.out.mono ?_
        rintro e w4 ⟨rfl, hb4⟩
        have HO4 := Lib.hid (HO3.out.to hb4)
        clear hb4
        go_wp2
        go_roundw
        case rel => exact ⟨i + 1, by omega, by go_num, by rw [HNx.out]; go_num, HO4.out⟩
        case measure => simp [intOf]; omega
      | false =>
        rw [hm] at HM HNx
        clear hm hk
        go_wp2_with fail
        refine HM.out.mono ?_
        rintro e w4 ⟨rfl, hb4⟩
        have HO4 := Lib.hid (HO3.out.to hb4)
        clear hb4
        go_wp2
        go_roundw
        case rel => exact ⟨i + 1, by omega, by go_num, by rw [HNx.out]; rfl, HO4.out⟩
        case measure => simp [intOf]; omega
    case neg =>
      obtain rfl : i = s.to_.length := by omega
      rw [show cntM s s.to_.length = leftN s (fun _ => false) from (left_start s).symm]
      have HOut := Lib.hid (OutR.new s (fun _ => false) [])
      have hl0 := leftN_le s (fun _ => false)
      have HLen0 : Hid (([] : List Int).length + leftN s (fun _ => false) ≤ 40) := by show 0 + _ ≤ 40; have e : s.n = s.to_.length := rfl; omega
      obtain ⟨R, hR⟩ : ∃ R, R = outerN s s.n (fun _ => false) [] := ⟨_, rfl⟩
      rw [← hR] at HOut HNo
      simp only [← hR] at HSo
      clear hR hi hlt hl0
      go_wp2
      go_loopw [5, 7] (fun s5 s7 wr => ∃ (come : Nat → Bool) (out : List Int), s5 = .int .i64 ((leftN s come : Nat) : Int) ∧ Hid (OrA W1 g s.n come s7 out wr) ∧ Hid (OutR s R come out) ∧ Hid (out.length + leftN s come ≤ 40)) (fun s5 _ _ => (intOf s5).toNat)
      case atStart => exact ⟨fun _ => false, [], rfl, HO3.out, HOut.out, HLen0.out⟩
      case round =>
        obtain ⟨come0, out0, rfl, HO4, HOR, HLen1⟩ := hrel
        clear HO3 HOut HLen0 c0 c1
        obtain ⟨W4, hW4⟩ : ∃ W4 : World, W4 = wr := ⟨_, rfl⟩
        rw [← hW4] at HO4 ⊢
        clear hW4
        obtain ⟨a6, c6, rfl⟩ := HO4.out.form
        have c0 := (HXs.out W4 HO4.out.lo).1.c0
        have c1 := (HXs.out W4 HO4.out.lo).1.c1
        by_cases hz : leftN s come0 = 0
        case pos =>
          have HR2 := Lib.hid (HSo.out _ (HOR.out.end_ ((leftN_zero HS.out).1 hz)))
          rw [hz]
          have HSl := Lib.hid (pxJ_sl HO4.out.own.swap)
          clear HOR hz HLen1
          go_wp2
          go_ret2
          exact LPost.some_ HR2.out HSl.out (HXs.out W4 HO4.out.lo).2
        case neg =>
          have hst : stopsN s come0 ≠ [] := fun e => hz ((leftN_zero HS.out).2 e)
          have HNx := Lib.hid (rnext_any A F c fc s HS.out hf come0 g W4 (HXs.out W4 HO4.out.lo).1.at_ (pxB_at (HO4.out.own.all (pxB g s.n come0) (by simp))).1)
          obtain ⟨N, hN⟩ : ∃ N, N = leftN s come0 := ⟨_, rfl⟩
          have HNe := Lib.hid hN
          have hN40 : N ≤ 40 := by have := leftN_le s come0; have e : s.n = s.to_.length := rfl; omega
          have hNp : 0 < N := by omega
          rw [← hN]
          clear hz hN
          cases hnx : nextN s come0 with
          | none =>
            have HR2 := Lib.hid (HNo.out (HOR.out.none hst hnx))
            rw [hnx] at HNx
            have HNx2 : Hid (Calls Try.prog 41 #[sftV A F c fc s, .slice (some ⟨g, 0, none⟩) s.to_.length s.to_.length] W4 fun e w' => e = .returned (.tuple #[.int .i64 0, .bool false]) ∧ Below W4.heap.size W4 w') := HNx.out
            clear HNx hnx hst HOR HLen1
            go_wp2_with fail
            refine HNx2.out.mono ?_
            rintro e w5 ⟨rfl, hb5⟩
            have HE := Lib.hid (HXs.out w5 (HO4.out.lo.trans (hb5.mono HO4.out.lo.size))).2
            clear hb5
            go_wp2
            go_ret2
            exact LPost.none HR2.out HE.out
          | some t =>
            rw [hnx] at HNx
            have HNx2 : Hid (Calls Try.prog 41 #[sftV A F c fc s, .slice (some ⟨g, 0, none⟩) s.to_.length s.to_.length] W4 fun e w' => e = .returned (.tuple #[.int .i64 t, .bool true]) ∧ Below W4.heap.size W4 w') := HNx.out
            have HGo := Lib.hid (HOR.out.go hnx)
            have HHas := Lib.hid (nextN_some hnx).1
            have HIn := Lib.hid (InnR.new s t come0 out0)
            obtain ⟨RI, hRI⟩ : ∃ RI, RI = innerN s t s.n come0 out0 := ⟨_, rfl⟩
            rw [← hRI] at HGo HIn
            clear HNx hnx hst HOR hRI
            go_wp2_with fail
            refine HNx2.out.mono ?_
            rintro e w5 ⟨rfl, hb5⟩
            have HO5 := Lib.hid (HO4.out.to hb5)
            have HLft : Hid (leftN s come0 ≤ N ∧ (leftN s come0 < N ∨ come0 = come0)) := ⟨by rw [HNe.out]; exact Nat.le_refl _, Or.inr rfl⟩
            clear hb5 c0 c1
            go_upto_region 15 with fail
            refine abs_world (Q := fun W => Code.wp _ _ _ _ W) (F := fun W => OrA W1 g s.n come0 (.slice a6 out0.length c6) out0 W) _ HO5.out ?_
            clear HO5 HO4 HNx2
            intro W5 h5
            have HO5 := Lib.hid h5
            clear h5
            go_wp2
            go_loopw [5, 7, 10] (fun s5 s7 s10 wr => ∃ (come : Nat → Bool) (out : List Int) (more : Bool), s10 = .bool more ∧ s5 = .int .i64 ((leftN s come : Nat) : Int) ∧ Hid (OrA W1 g s.n come s7 out wr) ∧ Hid (InnR s t RI come out) ∧ Hid (out.length + leftN s come ≤ 40) ∧ Hid (leftN s come ≤ N ∧ (leftN s come < N ∨ come = come0)) ∧ Hid (more = false → hasN s come t = false)) (fun s5 _ s10 _ => 2 * (intOf s5).toNat + boolN s10)
            case atStart => exact ⟨come0, out0, true, rfl, by rw [← HNe.out], HO5.out, HIn.out, HLen1.out, ⟨HLft.out.1, Or.inr rfl⟩, fun h => by cases h⟩
            case round =>
              obtain ⟨come1, out1, more, rfl, rfl, HO6, HIn1, HLen, HLft1, HMo⟩ := hrel
              clear HO5 HIn HLen1 HLft
              obtain ⟨W6, hW6⟩ : ∃ W6 : World, W6 = wr := ⟨_, rfl⟩
              rw [← hW6] at HO6 ⊢
              clear hW6
              obtain ⟨a7, c7, rfl⟩ := HO6.out.form
              cases more with
              | false =>
                have HRI := Lib.hid (HIn1.out.end_ (HMo.out rfl))
                have HOR2 : Hid (OutR s R come1 out1) := HGo.out.2 come1 out1 HRI.out (by
                  rw [← HNe.out]
                  rcases HLft1.out.2 with h | h
                  · exact h
                  · have h1 := HMo.out rfl
                    rw [h, HHas.out] at h1; cases h1)
                have HMs : Hid (leftN s come1 < N) := by
                  rcases HLft1.out.2 with h | h
                  · exact h
                  · have h1 := HMo.out rfl
                    rw [h, HHas.out] at h1; cases h1
                clear HIn1 HMo HLft1 HRI
                go_wp2
                go_roundw
                case rel => exact ⟨come1, out1, rfl, HO6.out, HOR2.out, HLen.out⟩
                case measure => have := HMs.out; simp [intOf]; omega
              | true =>
                clear HMo
                have HL0 := Lib.hid (L4.start s t come1 out1)
                go_wp2
                go_loopw [5, 7, 10, 11, 12] (fun s5 s7 s10 s11 s12 wr => ∃ i : Nat, i ≤ s.to_.length ∧ s12 = .int .i64 (i : Int) ∧ ∃ (more waits : Bool) (come : Nat → Bool) (out : List Int), s10 = .bool more ∧ s11 = .bool waits ∧ s5 = .int .i64 ((leftN s come : Nat) : Int) ∧ Hid (OrA W1 g s.n come s7 out wr) ∧ Hid (L4 s t come1 out1 i more waits come out)) (fun _ _ _ _ s12 _ => s.to_.length - (intOf s12).toNat)
                case atStart => exact ⟨0, Nat.zero_le _, rfl, false, false, come1, out1, rfl, rfl, rfl, HO6.out, HL0.out⟩
                case round =>
                  obtain ⟨i, hi, rfl, more, waits, come, out, rfl, rfl, rfl, HO7, HL⟩ := hrel
                  clear HO6 HL0
                  obtain ⟨W5, hW5⟩ : ∃ W5 : World, W5 = wr := ⟨_, rfl⟩
                  rw [← hW5] at HO7 ⊢
                  clear hW5
                  have c0 := (HXs.out W5 HO7.out.lo).1.c0
                  have c1 := (HXs.out W5 HO7.out.lo).1.c1
                  cases more with
                  | true =>
                    have HB : Hid (∃ j, pickN s come1 t = some j ∧ come = putN come1 j ∧ out = out1 ++ [(j : Int)] ∧ waits = true) := by
                      rcases HL.out with ⟨h, -⟩ | ⟨-, h⟩
                      · cases h
                      · exact h
                    obtain ⟨j, hpk, hc2, ho2, hw2⟩ := HB.out
                    have hhas : hasN s come1 t = true := hasN_iff.2 ⟨j, (pickN_some hpk).1, (pickN_some hpk).2.1, (pickN_some hpk).2.2.1⟩
                    have hlp := leftN_put (pickN_some hpk).1 (pickN_some hpk).2.2.1
                    have HIn2 : Hid (InnR s t RI come out) := by rw [hc2, ho2]; exact HIn1.out.go hhas hpk
                    have HLen2 : Hid (out.length + leftN s come ≤ 40) := by
                      show _ ≤ _
                      rw [hc2, ho2, List.length_append]
                      have := HLen.out
                      simp only [List.length_singleton]
                      omega
                    have HLft2 : Hid (leftN s come ≤ N ∧ (leftN s come < N ∨ come = come0)) := by
                      have := HLft1.out.1
                      rw [hc2]
                      exact ⟨by omega, Or.inl (by omega)⟩
                    have HMs : Hid (leftN s come < leftN s come1) := by show _ < _; rw [hc2]; omega
                    subst hw2
                    clear HB HL hpk hc2 ho2 hhas hlp HIn1 HLen HLft1
                    by_cases hlt : i < s.to_.length
                    · go_wp2
                      go_roundw
                      case rel => exact ⟨come, out, true, rfl, rfl, HO7.out, HIn2.out, HLen2.out, HLft2.out, fun h => by cases h⟩
                      case measure => have := HMs.out; simp [intOf, boolN]; omega
                    · go_wp2
                      go_roundw
                      case rel => exact ⟨come, out, true, rfl, rfl, HO7.out, HIn2.out, HLen2.out, HLft2.out, fun h => by cases h⟩
                      case measure => have := HMs.out; simp [intOf, boolN]; omega
                  | false =>
                    have hsame : come = come1 ∧ out = out1 := by
                      rcases HL.out with ⟨-, h1, h2, -⟩ | ⟨h, -⟩
                      · exact ⟨h1, h2⟩
                      · cases h
                    obtain ⟨rfl, rfl⟩ := hsame
                    obtain ⟨a7, c7, rfl⟩ := HO7.out.form
                    by_cases hlt : i < s.to_.length
                    case neg =>
                      obtain ⟨hwt, hpk⟩ := HL.out.none (by have e : s.n = s.to_.length := rfl; omega) hi
                      cases hhas : hasN s come t with
                      | true =>
                        rw [hhas] at hwt
                        subst hwt
                        have HR2 := Lib.hid (HNo.out (HGo.out.1 (HIn1.out.none hhas hpk)))
                        clear HL hpk hhas HIn1 HLft1 HGo
                        go_wp2
                        go_ret2
                        exact LPost.none HR2.out (HXs.out W5 HO7.out.lo).2
                      | false =>
                        rw [hhas] at hwt
                        subst hwt
                        have HHs : Hid (hasN s come t = false) := hhas
                        clear HL hpk hhas
                        go_wp2
                        go_roundw
                        case rel => exact ⟨come, out, false, rfl, rfl, HO7.out, HIn1.out, HLen.out, HLft1.out, fun _ => HHs.out⟩
                        case measure => simp [intOf, boolN]
                    case pos =>
                      have hil : i < s.n := hlt
                      have HXn : Hid (∀ W, Below W5.heap.size W5 W → OrA W1 g s.n come (.slice a7 out.length c7) out W) := fun W hb => HO7.out.to hb
                      have HSf := Lib.hid (HXs.out W5 HO7.out.lo).1.at_
                      have hOi : ∀ W, Below W5.heap.size W5 W → Calls Try.prog 42 #[sftV A F c fc s, .int .i64 (i : Int)] W fun e w' => e = .returned (.int .i64 (offN s i)) ∧ Below W.heap.size W w' := fun W hb => roff_later c fc HS.out HSf.out i W hil hb
                      have hMi : ∀ W, Below W5.heap.size W5 W → Calls Try.prog 27 #[sftV A F c fc s, .int .i64 (i : Int)] W fun e w' => e = .returned (.bool (movedN s i)) ∧ Below W.heap.size W w' := fun W hb => rmoved_later c fc HS.out hf HSf.out i W hil hb
                      have hFi : ∀ W, Below W5.heap.size W5 W → Calls Try.prog 43 #[sftV A F c fc s, .int .i64 (i : Int), .slice (some ⟨g, 0, none⟩) s.to_.length s.to_.length] W fun e w' => e = .returned (.bool (freeN s come (offN s i) i)) ∧ Below W.heap.size W w' := fun W hb => rfree_any A F c fc s HS.out hf come g i hil W (HSf.out.to hb) (pxB_at ((HXn.out W hb).own.all (pxB g s.n come) (by simp))).1
                      have hXs5 : ∀ W, Below W5.heap.size W5 W → W.cell? ⟨pb, 0, none⟩ = some (.slice A s.to_.length c) ∧ W.cell? ⟨pb, 1, none⟩ = some (.slice F s.first.length fc) ∧ W.cell? ⟨g, i, none⟩ = some (.bool (come i)) := fun W hb => ⟨(HXs.out W (HXn.out W hb).lo).1.c0, (HXs.out W (HXn.out W hb).lo).1.c1, (pxB_at ((HXn.out W hb).own.all (pxB g s.n come) (by simp))).1.2 i hil⟩
                      obtain ⟨oi, hoi⟩ : ∃ oi, oi = offN s i := ⟨_, rfl⟩
                      obtain ⟨m, hm⟩ : ∃ m, m = movedN s i := ⟨_, rfl⟩
                      obtain ⟨q, hq⟩ : ∃ q, q = come i := ⟨_, rfl⟩
                      obtain ⟨fr, hfr⟩ : ∃ fr, fr = freeN s come (offN s i) i := ⟨_, rfl⟩
                      have HAt0 : Hid (atN s come t i = (decide (oi = t) && (m && !q))) := by
                        show _ = _
                        rw [hoi, hm, hq]; rfl
                      have HFr0 : Hid (oi = t → freeN s come t i = fr) := fun e => by rw [hfr, ← hoi, e]
                      simp only [← hoi] at hOi
                      simp only [← hm] at hMi
                      simp only [← hq] at hXs5
                      simp only [← hfr] at hFi
                      have HOi := Lib.hid hOi
                      have HMi := Lib.hid hMi
                      have HFi := Lib.hid hFi
                      have HXs5 := Lib.hid hXs5
                      have cq := (hXs5 W5 (Below.refl _ _)).2.2
                      clear hOi hMi hFi hXs5 hoi hm hq hfr HO7
                      cases b1 : (oi == t) with
                      | false =>
                        have b1' : (oi != t) = true := by simpa using b1
                        have HAt : Hid ((waits || atN s come t i) = (waits || (false && (m && !q)))) := by
                          show _ = _
                          rw [HAt0.out, decide_eq_false (beq_eq_false_iff_ne.1 b1)]
                        have HAf : Hid ((atN s come t i && freeN s come t i) = ((false && (m && !q)) && freeN s come t i)) := by
                          show _ = _
                          rw [HAt0.out, decide_eq_false (beq_eq_false_iff_ne.1 b1)]
                        clear HAt0 HFr0
                        go_wp2_with fail
                        refine (HOi.out W5 (Below.refl _ _)).mono ?_
                        rintro e w6 ⟨rfl, hb6⟩
                        obtain ⟨c0', c1', cq'⟩ := HXs5.out w6 hb6
                        have HB6 := Lib.hid hb6
                        clear hb6 c0 c1 cq

                        have HN : Hid (L4 s t come out (i + 1) false waits come out) := L4.next HL.out (by first | exact HAt.out | rw [HAt.out, Bool.false_and, Bool.or_false] | (rw [HAt.out]; rfl)) (by first | exact HAf.out | (rw [HAf.out]; rfl))
                        clear HL HAt HAf
                        go_wp2
                        go_roundw
                        case rel => exact ⟨i + 1, by omega, by go_num, false, waits, come, out, rfl, rfl, rfl, HXn.out w6 HB6.out, HN.out⟩
                        case measure => simp [intOf]; omega
                      | true =>
                        have b1' : (oi != t) = false := by simpa using b1
                        have HAt1 : Hid (atN s come t i = (m && !q)) := by
                          show _ = _
                          rw [HAt0.out, decide_eq_true (beq_iff_eq.1 b1), Bool.true_and]
                        have HFr := Lib.hid (HFr0.out (beq_iff_eq.1 b1))
                        clear HAt0 HFr0
                        cases m with
                        | false =>
                          have HAt : Hid ((waits || atN s come t i) = waits) := by show _ = _; rw [HAt1.out, Bool.false_and, Bool.or_false]
                          have HAf : Hid ((atN s come t i && freeN s come t i) = false) := by show _ = _; rw [HAt1.out, Bool.false_and, Bool.false_and]
                          clear HAt1 HFr
                          go_wp2_with fail
                          refine (HOi.out W5 (Below.refl _ _)).mono ?_
                          rintro e w6 ⟨rfl, hb6⟩
                          obtain ⟨c0', c1', cq'⟩ := HXs5.out w6 hb6
                          have HB6 := Lib.hid hb6
                          clear hb6 c0 c1 cq

                          go_wp2_with fail
                          refine (HMi.out w6 HB6.out).mono ?_
                          rintro e w7 ⟨rfl, hb7⟩
                          obtain ⟨d0, d1, dq⟩ := HXs5.out w7 (HB6.out.trans (hb7.mono HB6.out.size))
                          have HB7 := Lib.hid (HB6.out.trans (hb7.mono HB6.out.size))
                          clear hb7 c0' c1' cq'

                          have HN : Hid (L4 s t come out (i + 1) false waits come out) := L4.next HL.out (by first | exact HAt.out | (rw [HAt.out]; rfl)) (by first | exact HAf.out | (rw [HAf.out]; rfl))
                          clear HL HAt HAf
                          go_wp2
                          go_roundw
                          case rel => exact ⟨i + 1, by omega, by go_num, false, waits, come, out, rfl, rfl, rfl, HXn.out w7 HB7.out, HN.out⟩
                          case measure => simp [intOf]; omega
                        | true =>
                          cases q with
                          | true =>
                            have HAt : Hid ((waits || atN s come t i) = waits) := by show _ = _; rw [HAt1.out]; simp
                            have HAf : Hid ((atN s come t i && freeN s come t i) = false) := by show _ = _; rw [HAt1.out]; rfl
                            clear HAt1 HFr
                            go_wp2_with fail
                            refine (HOi.out W5 (Below.refl _ _)).mono ?_
                            rintro e w6 ⟨rfl, hb6⟩
                            obtain ⟨c0', c1', cq'⟩ := HXs5.out w6 hb6
                            have HB6 := Lib.hid hb6
                            clear hb6 c0 c1 cq

                            go_wp2_with fail
                            refine (HMi.out w6 HB6.out).mono ?_
                            rintro e w7 ⟨rfl, hb7⟩
                            obtain ⟨d0, d1, dq⟩ := HXs5.out w7 (HB6.out.trans (hb7.mono HB6.out.size))
                            have HB7 := Lib.hid (HB6.out.trans (hb7.mono HB6.out.size))
                            clear hb7 c0' c1' cq'

                            have HN : Hid (L4 s t come out (i + 1) false waits come out) := L4.next HL.out (by first | exact HAt.out | (rw [HAt.out]; rfl)) (by first | exact HAf.out | (rw [HAf.out]; rfl))
                            clear HL HAt HAf
                            go_wp2
                            go_roundw
                            case rel => exact ⟨i + 1, by omega, by go_num, false, waits, come, out, rfl, rfl, rfl, HXn.out w7 HB7.out, HN.out⟩
                            case measure => simp [intOf]; omega
                          | false =>
                            have HAt : Hid ((waits || atN s come t i) = true) := by show _ = _; rw [HAt1.out]; simp
                            cases fr with
                            | false =>
                              have HAf : Hid ((atN s come t i && freeN s come t i) = false) := by show _ = _; rw [HAt1.out, HFr.out]; rfl
                              clear HAt1 HFr
                              go_wp2_with fail
                              refine (HOi.out W5 (Below.refl _ _)).mono ?_
                              rintro e w6 ⟨rfl, hb6⟩
                              obtain ⟨c0', c1', cq'⟩ := HXs5.out w6 hb6
                              have HB6 := Lib.hid hb6
                              clear hb6 c0 c1 cq

                              go_wp2_with fail
                              refine (HMi.out w6 HB6.out).mono ?_
                              rintro e w7 ⟨rfl, hb7⟩
                              obtain ⟨d0, d1, dq⟩ := HXs5.out w7 (HB6.out.trans (hb7.mono HB6.out.size))
                              have HB7 := Lib.hid (HB6.out.trans (hb7.mono HB6.out.size))
                              clear hb7 c0' c1' cq'

                              go_wp2_with fail
                              refine (HFi.out w7 HB7.out).mono ?_
                              rintro e w8 ⟨rfl, hb8⟩
                              obtain ⟨e0, e1, eq⟩ := HXs5.out w8 (HB7.out.trans (hb8.mono HB7.out.size))
                              have HB8 := Lib.hid (HB7.out.trans (hb8.mono HB7.out.size))
                              clear hb8 d0 d1 dq

                              have HN : Hid (L4 s t come out (i + 1) false true come out) := L4.next HL.out (by first | exact HAt.out | (rw [HAt.out]; rfl)) (by first | exact HAf.out | (rw [HAf.out]; rfl))
                              clear HL HAt HAf
                              go_wp2
                              go_roundw
                              case rel => exact ⟨i + 1, by omega, by go_num, false, true, come, out, rfl, rfl, rfl, HXn.out w8 HB8.out, HN.out⟩
                              case measure => simp [intOf]; omega
                            | true =>
                              have HAf : Hid ((atN s come t i && freeN s come t i) = true) := by show _ = _; rw [HAt1.out, HFr.out]; rfl
                              clear HAt1 HFr
                              go_wp2_with fail
                              refine (HOi.out W5 (Below.refl _ _)).mono ?_
                              rintro e w6 ⟨rfl, hb6⟩
                              obtain ⟨c0', c1', cq'⟩ := HXs5.out w6 hb6
                              have HB6 := Lib.hid hb6
                              clear hb6 c0 c1 cq

                              go_wp2_with fail
                              refine (HMi.out w6 HB6.out).mono ?_
                              rintro e w7 ⟨rfl, hb7⟩
                              obtain ⟨d0, d1, dq⟩ := HXs5.out w7 (HB6.out.trans (hb7.mono HB6.out.size))
                              have HB7 := Lib.hid (HB6.out.trans (hb7.mono HB6.out.size))
                              clear hb7 c0' c1' cq'

                              go_wp2_with fail
                              refine (HFi.out w7 HB7.out).mono ?_
                              rintro e w8 ⟨rfl, hb8⟩
                              obtain ⟨e0, e1, eq⟩ := HXs5.out w8 (HB7.out.trans (hb8.mono HB7.out.size))
                              have HB8 := Lib.hid (HB7.out.trans (hb8.mono HB7.out.size))
                              clear hb8 d0 d1 dq

                              have hpk : pickN s come t = some i := L4.pick HL.out hil HAf.out
                              have hof : OrA W1 g s.n come (.slice a7 out.length c7) out w8 := HXn.out w8 HB8.out
                              have hlp := leftN_put hil (pickN_some hpk).2.2.1
                              obtain ⟨-, hfz, hgB⟩ := pxB_at (hof.own.all (pxB g s.n come) (by simp))
                              have hgl := (pxB_at (hof.own.all (pxB g s.n come) (by simp))).1.1
                              have hO2 := (pxB_put hof.own i).swap
                              have hlo2 : Below W1.heap.size W1 (w8.setCell ⟨g, i, none⟩ (.bool true)) := hof.lo.setCell (p := ⟨g, i, none⟩) hgB _
                              obtain ⟨A9, c9, w9, hrun, hO9, hb9⟩ := pxJ_app hO2 hlo2.size (by have := HLen.out; omega) (i : Int)
                              have HOr : Hid (OrA W1 g s.n (putN come i) (.slice A9 (out.length + 1) c9) (out ++ [(i : Int)]) w9) := ⟨hO9.swap, hlo2.trans hb9⟩
                              have HN : Hid (L4 s t come out (i + 1) true true (putN come i) (out ++ [(i : Int)])) := Or.inr ⟨rfl, i, hpk, rfl, rfl, rfl⟩
                              have hfzi := hfz i
                              have hle : ((leftN s come : Nat) : Int) - 1 = ((leftN s (putN come i) : Nat) : Int) := by omega
                              have hlz : 1 ≤ leftN s come := by omega
                              have hl40 : leftN s come ≤ 40 := Nat.le_trans (leftN_le s come) hn40
                              rw [World.size_setCell] at hrun
                              have HLe := Lib.hid hle
                              clear hof hO2 hlo2 hO9 hb9 hpk hlp hfz hgB HL HAt HAf hle
                              go_wp2_with (at_builtin; refine wpList_append_run _ rfl _ _ _ _ rfl _ _ (by rfl) (by rfl) hrun ?_)
                              go_roundw
                              case rel => exact ⟨i + 1, by omega, by go_num, true, true, putN come i, out ++ [(i : Int)], rfl, rfl, by first | (rw [← HLe.out]; done) | (rw [← HLe.out]; go_num), HOr.out, HN.out⟩
                              case measure => simp [intOf]; omega
end Go.Proofs.Ytflpikickbellaa
