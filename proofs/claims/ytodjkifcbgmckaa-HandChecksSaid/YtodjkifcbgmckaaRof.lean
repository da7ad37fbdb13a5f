/- Layer 29: the reference's Of. -/
import Derived.Test.YtodjkifcbgmckaaRofP
import Derived.Test.YtodjkifcbgmckaaRsc
namespace Go.Proofs.Ytodjkifcbgmckaa
open Go.RowKit Go.Shelf Go.Sort
set_option maxRecDepth 100000

theorem rof_close {W : World} {tmps : Array Value} {v f : Value} {x : Int} {b : Nat} {R : Ending → World → Prop} (c0 : W.cell? ⟨b, 0, none⟩ = some v) (c1 : W.cell? ⟨b, 1, none⟩ = some f) (h6 : tmps[2]?.getD undef = .pointer (some ⟨b, 0, none⟩)) (h7 : tmps[3]?.getD undef = .int .i64 x) (hR : R (.returned (.tuple #[.agg #[v, f], .int .i64 x])) W) :
    bodyPost Try.prog Try.f16 R .ret { tmps := tmps, defers := [] } W := by
  refine bodyPost_ret (v := .tuple #[.agg #[v, f], .int .i64 x]) ?_ rfl hR
  simp [results, Try.results16, go_sem, h6, h7, c0, c1]
theorem toA_len (b i : Nat) : (toA b i).length = i := by unfold toA; simp
theorem toB_len (i : Nat) : (toB i).length = i := by unfold toB; simp
set_option maxHeartbeats 64000000 in
theorem rof_any (s : Stc) (hw : s.wf) (w : World) : Calls Try.prog 16 #[s.val] w fun e w' => brdOut (ofE s) w e w' := by
  have HE1 : Hid (s.err ≠ 0 → ofE s = (⟨[], []⟩, s.err)) := fun h => by unfold ofE; rw [if_pos h]
  have HE2 : Hid (s.err = 0 → s.kind ≠ 6 ∧ s.kind ≠ 7 → ofE s = (⟨[], []⟩, 2)) := fun h h2 => by unfold ofE; rw [if_neg (by rw [h]; decide), if_pos h2]
  have HE3 : Hid (s.err = 0 → (s.kind = 6 ∨ s.kind = 7) → 8 < s.a + s.b → ofE s = (⟨[], []⟩, 4)) := fun h h2 h3 => by unfold ofE; rw [if_neg (by rw [h]; decide), if_neg (by omega), if_pos h3]
  have HE4 : Hid (s.err = 0 → (s.kind = 6 ∨ s.kind = 7) → ¬ 8 < s.a + s.b → ofE s = (⟨toC s.a.toNat s.b.toNat, frC (decide (s.kind = 6)) s.a.toNat s.b.toNat (s.a.toNat + s.b.toNat)⟩, 0)) := fun h h2 h3 => by unfold ofE; rw [if_neg (by rw [h]; decide), if_neg (by omega), if_neg h3]
  have HCk := Lib.hid (fun W => rscheck_any s W)
  have HOk := Lib.hid (fun h hk => ok_cable (s := s) h hk)
  obtain ⟨kind, purl, sa, sb⟩ := s
  have hbs : Below w.heap.size w (w.alloc (.cells #[.int .u8 kind, .bool purl, .int .i64 sa, .int .i64 sb] 35)) := (Below.refl _ w).alloc (Nat.le_refl _) _
  have HBs := Lib.hid hbs
  have s0 : (w.alloc (.cells #[.int .u8 kind, .bool purl, .int .i64 sa, .int .i64 sb] 35)).cell? ⟨w.heap.size, 0, none⟩ = some (.int .u8 kind) := cell_new rfl rfl rfl
  have s1 : (w.alloc (.cells #[.int .u8 kind, .bool purl, .int .i64 sa, .int .i64 sb] 35)).cell? ⟨w.heap.size, 1, none⟩ = some (.bool purl) := cell_new rfl rfl rfl
  have s2 : (w.alloc (.cells #[.int .u8 kind, .bool purl, .int .i64 sa, .int .i64 sb] 35)).cell? ⟨w.heap.size, 2, none⟩ = some (.int .i64 sa) := cell_new rfl rfl rfl
  have s3 : (w.alloc (.cells #[.int .u8 kind, .bool purl, .int .i64 sa, .int .i64 sb] 35)).cell? ⟨w.heap.size, 3, none⟩ = some (.int .i64 sb) := cell_new rfl rfl rfl
  have HRn := Lib.hid (RsB.new (w.alloc (.cells #[.int .u8 kind, .bool purl, .int .i64 sa, .int .i64 sb] 35)))
  have hsz := lt_of_cell s0
  have HS : Hid (∀ W, Below (w.alloc (.cells #[.int .u8 kind, .bool purl, .int .i64 sa, .int .i64 sb] 35)).heap.size (w.alloc (.cells #[.int .u8 kind, .bool purl, .int .i64 sa, .int .i64 sb] 35)) W → W.cell? ⟨w.heap.size, 0, none⟩ = some (.int .u8 kind) ∧ W.cell? ⟨w.heap.size, 1, none⟩ = some (.bool purl) ∧ W.cell? ⟨w.heap.size, 2, none⟩ = some (.int .i64 sa) ∧ W.cell? ⟨w.heap.size, 3, none⟩ = some (.int .i64 sb)) := fun W h => ⟨(bcell h hsz _).trans s0, (bcell h hsz _).trans s1, (bcell h hsz _).trans s2, (bcell h hsz _).trans s3⟩
  clear s0 s1 s2 s3 hsz hbs hw
  go_enter Try.func16, Try.ntmps16
  go_upto_region 1 with fail
  refine abs_world (Q := fun W => Code.wp _ _ _ _ W) (F := fun W => RsB (w.alloc (.cells #[.int .u8 kind, .bool purl, .int .i64 sa, .int .i64 sb] 35)) W) _ HRn.out ?_
  try simp only [World.size_alloc]
  obtain ⟨w0, hw0⟩ : ∃ w0, w0 = w.alloc (.cells #[.int .u8 kind, .bool purl, .int .i64 sa, .int .i64 sb] 35) := ⟨_, rfl⟩
  have hw0s : w0.heap.size = w.heap.size + 1 := by rw [hw0]; simp
  rw [← hw0] at HS HBs ⊢
  rw [← hw0s]
  clear HRn hw0 hw0s
  intro W1 hR1
  have HR1 := Lib.hid hR1
  obtain ⟨s0, s1, s2, s3⟩ := HS.out W1 hR1.lo
  have HCk1 := Lib.hid (HCk.out W1)
  clear hR1
  by_cases he : (⟨kind, purl, sa, sb⟩ : Stc).err = 0
  case neg =>
    obtain ⟨er, her⟩ : ∃ er, er = (⟨kind, purl, sa, sb⟩ : Stc).err := ⟨_, rfl⟩
    have hF := HE1.out he
    rw [← her] at hF HCk1 he
    have d0 : (er != 0) = true := by simpa using he
    have HEr := Lib.hid her
    have HF := Lib.hid hF
    clear hF he her HE1 HE2 HE3 HE4 HOk
    go_upto_region 2 with ((go_at_call 31; refine HCk1.out.mono ?_; rintro e W2 ⟨rfl, hb2⟩))
    have HR2 := Lib.hid (HR1.out.to hb2)
    have hc2 := HCk.out W2
    rw [← HEr.out] at hc2
    have HCk2 := Lib.hid hc2
    clear s0 s1 s2 s3 hb2 HR1 HCk1 hc2 HCk
    obtain ⟨s0, s1, s2, s3⟩ := HS.out W2 HR2.out.lo
    go_wp2_with ((go_at_call 31; refine HCk2.out.mono ?_; rintro e W3 ⟨rfl, hb3⟩; have HR3 := Lib.hid (HR2.out.to hb3); obtain ⟨r0, r1⟩ : _ ∧ _ := ⟨HR3.out.c0, HR3.out.c1⟩; have rf := HR3.out.fz; have hlt' := lt_of_cell r0))
    have HP := Lib.hid (HR3.out.put (.slice none 0 0) (.slice none 0 0))
    have HO := Lib.hid ((HR3.out.stop HF.out).base HBs.out)
    exact rof_close HP.out.1 HP.out.2.1 rfl rfl HO.out
  rw [he] at HCk1
  go_upto_region 3 with ((go_at_call 31; refine HCk1.out.mono ?_; rintro e W2 ⟨rfl, hb2⟩))
  refine abs_world (Q := fun W => Code.wp _ _ _ _ W) (F := fun W => Below W1.heap.size W1 W) _ hb2 ?_
  clear hb2 HCk1 s0 s1 s2 s3
  intro W3 hb3
  have HR3 := Lib.hid (HR1.out.to hb3)
  obtain ⟨s0, s1, s2, s3⟩ := HS.out W3 HR3.out.lo
  clear hb3 HR1 HE1
  by_cases hk : kind = 6 ∨ kind = 7
  case neg =>
    have k6 : (kind != 6) = true := by simp; omega
    have k7 : (kind != 7) = true := by simp; omega
    have HF : Hid (ofE ⟨kind, purl, sa, sb⟩ = (⟨[], []⟩, 2)) := HE2.out he (by omega)
    clear hk he HE2 HE3 HE4 HOk
    obtain ⟨r0, r1⟩ : _ ∧ _ := ⟨HR3.out.c0, HR3.out.c1⟩
    have rf := HR3.out.fz
    have hlt' := lt_of_cell r0
    have HP := Lib.hid (HR3.out.put (.slice none 0 0) (.slice none 0 0))
    have HO := Lib.hid ((HR3.out.stop HF.out).base HBs.out)
    clear HR3 HF 
    go_wp2
    exact rof_close HP.out.1 HP.out.2.1 rfl rfl HO.out
  obtain ⟨hA0, hA1, hB0, hB1⟩ := HOk.out he hk
  replace hA0 : 0 ≤ sa := hA0
  replace hA1 : sa ≤ 1000 := hA1
  replace hB0 : 0 ≤ sb := hB0
  replace hB1 : sb ≤ 1000 := hB1
  have HE3' := Lib.hid (HE3.out he hk)
  have HE4' := Lib.hid (HE4.out he hk)
  clear HE2 HE3 HE4 HOk he
  obtain ⟨q, hq⟩ : ∃ q : Bool, q = decide (kind = 6) := ⟨_, rfl⟩
  have k6 : (kind != 6) = !q := by
    rw [hq]
    by_cases h : kind = 6
    · simp [h]
    · simp [h]
  have k6' : (kind == 6) = q := by
    rw [hq]
    by_cases h : kind = 6
    · simp [h]
    · simp [h]
  have k7 : q = false → (kind != 7) = false := fun h => by
    rw [hq] at h
    have := of_decide_eq_false h
    simp; omega
  rw [show decide ((⟨kind, purl, sa, sb⟩ : Stc).kind = 6) = q from hq.symm] at HE4'
  obtain ⟨a, rfl⟩ : ∃ a : Nat, sa = (a : Int) := ⟨sa.toNat, by omega⟩
  obtain ⟨b, rfl⟩ : ∃ b : Nat, sb = (b : Int) := ⟨sb.toNat, by omega⟩
  have hab : (a : Int) + (b : Int) = ((a + b : Nat) : Int) := by omega
  have HAb := Lib.hid hab
  clear hq hk hab
  cases q with
  | false =>
    replace k7 := k7 rfl
    rw [Bool.not_false] at k6
    go_upto_region 5 with fail
    by_cases h8 : 8 < a + b
    · have d8 : decide (8 < a + b) = true := decide_eq_true h8
      have d8' : decide ((8 : Int) < (a : Int) + (b : Int)) = true := decide_eq_true (by omega)
      have HF : Hid (ofE ⟨kind, purl, (a : Int), (b : Int)⟩ = (⟨[], []⟩, 4)) := HE3'.out (by show (8 : Int) < (a : Int) + (b : Int); omega)
      clear h8 HE3' HE4' s0 s1 k6 k6'
      obtain ⟨r0, r1⟩ : _ ∧ _ := ⟨HR3.out.c0, HR3.out.c1⟩
      have rf := HR3.out.fz
      have hlt' := lt_of_cell r0
      have HP := Lib.hid (HR3.out.put (.slice none 0 0) (.slice none 0 0))
      have HO := Lib.hid ((HR3.out.stop HF.out).base HBs.out)
      clear HR3 HF 
      go_wp2
      exact rof_close HP.out.1 HP.out.2.1 rfl rfl HO.out
    have d8 : decide (8 < a + b) = false := decide_eq_false h8
    have d8' : decide ((8 : Int) < (a : Int) + (b : Int)) = false := decide_eq_false (by omega)
    have HF : Hid (ofE ⟨kind, purl, (a : Int), (b : Int)⟩ = (⟨toC a b, frC false a b (a + b)⟩, 0)) := by
      have h := HE4'.out (by omega)
      show _ = _
      rw [h]
      rfl
    have HO0 := Lib.hid (OfI.new W3)
    have hn8 : a + b ≤ 8 := by omega
    clear HE3' HE4' h8
    go_upto_region 8 with fail
    refine abs_world (Q := fun W => Code.wp _ _ _ _ W) (F := fun W => OfI W3 W3.heap.size [] (.slice none 0 0) (.slice none 0 0) [] W) _ HO0.out ?_
    clear HO0 d8 d8'
    obtain ⟨pb, hpb⟩ : ∃ pb, pb = W3.heap.size := ⟨_, rfl⟩
    have hs3l := lt_of_cell s3
    have hspb : w.heap.size ≠ pb := by omega
    have hspb' : pb ≠ w.heap.size := by omega
    have HSt := Lib.hid (fun W (h : Below W3.heap.size W3 W) => And.intro ((bcell h (lt_of_cell s0) _).trans s0) (And.intro ((bcell h (lt_of_cell s2) _).trans s2) ((bcell h (lt_of_cell s3) _).trans s3)))
    rw [← hpb]
    clear hpb s0 s1 s2 s3 hs3l
    intro W4 hO4
    have HO4 := Lib.hid hO4
    clear hO4
    go_wp2
    go_loopw [5] (fun s5 wr => ∃ (i : Nat) (V : Value), i ≤ a ∧ s5 = .int .i64 (i : Int) ∧ Hid (OfI W3 pb (toA b i) V (.slice none 0 0) [] wr)) (fun s5 _ => a - (intOf s5).toNat)
    case atStart => exact ⟨0, _, Nat.zero_le _, rfl, HO4.out⟩
    case round =>
      clear HO4
      obtain ⟨i, V, hi, rfl, HI⟩ := hrel
      obtain ⟨p0, p1, pf, ⟨A0, c0, hV⟩, -⟩ := HI.out.cells
      rw [toA_len] at hV
      subst hV
      obtain ⟨s0, s2, s3⟩ := HSt.out wr HI.out.lo
      by_cases hlt : i < a
      case pos =>
        obtain ⟨A1, c1, w9, hr, e0, ef, hb9, hI9⟩ := HI.out.pushTo ((b + i : Nat) : Int) (by rw [toA_len]; omega)
        rw [toA_len] at hr hI9
        rw [← toA_next] at hI9
        have hwib : IntKind.i64.wrap ((b : Int) + (i : Int)) = ((b + i : Nat) : Int) := by rw [IntWalk.i64_in _ (by omega)]; omega
        have hwic : (b : Int) + (i : Int) = ((b + i : Nat) : Int) := by omega
        generalize ((b + i : Nat) : Int) = rm at hr hwib hwic
        subst hwic
        have HI9 := Lib.hid hI9
        clear hI9 hb9 hwib HI
        go_wp2_with (at_builtin; refine wpList_append_run _ rfl _ _ _ _ rfl _ _ (by rfl) (by rfl) hr ?_)
        clear hr p0 p1 pf e0 ef s0 s2 s3
        go_roundw
        case rel => exact ⟨i + 1, _, by omega, by go_num, HI9.out⟩
        case measure => simp [intOf]; omega
      case neg =>
        have HI2 : Hid (OfI W3 pb (toA b a ++ toB 0) (.slice A0 a c0) (.slice none 0 0) [] wr) := by
          have h := HI.out
          rw [show i = a by omega] at h
          have e : toA b a ++ toB 0 = toA b a := List.append_nil _
          show OfI _ _ _ _ _ _ _
          rw [e]; exact h
        obtain rfl : i = a := by omega
        clear HI
        go_upto_region 12 with fail
        go_wp2
        clear s0 s2 s3 p0 p1 pf
        go_loopw [6] (fun s6 wr => ∃ (j : Nat) (V : Value), j ≤ b ∧ s6 = .int .i64 (j : Int) ∧ Hid (OfI W3 pb (toA b i ++ toB j) V (.slice none 0 0) [] wr)) (fun s6 _ => b - (intOf s6).toNat)
        case atStart => exact ⟨0, _, Nat.zero_le _, rfl, HI2.out⟩
        case round =>
          clear HI2 hlt
          obtain ⟨j, V, hj, rfl, HI⟩ := hrel
          obtain ⟨p0, p1, pf, ⟨A0, c0, hV⟩, -⟩ := HI.out.cells
          have hlen : (toA b i ++ toB j).length = i + j := by rw [List.length_append, toA_len, toB_len]
          rw [hlen] at hV
          subst hV
          obtain ⟨s0, s2, s3⟩ := HSt.out wr HI.out.lo
          by_cases hlt : j < b
          case pos =>
            obtain ⟨A1, c1, w9, hr, e0, ef, hb9, hI9⟩ := HI.out.pushTo (j : Int) (by rw [hlen]; omega)
            rw [hlen] at hr hI9
            rw [List.append_assoc, ← toB_next] at hI9
            have HI9 := Lib.hid hI9
            clear hI9 hb9 hlen HI
            go_wp2_with (at_builtin; refine wpList_append_run _ rfl _ _ _ _ rfl _ _ (by rfl) (by rfl) hr ?_)
            clear hr p0 p1 pf e0 ef s0 s2 s3
            go_roundw
            case rel => exact ⟨j + 1, _, by omega, by go_num, HI9.out⟩
            case measure => simp [intOf]; omega
          case neg =>
            have HI2 : Hid (OfI W3 pb (toC i b) (.slice A0 (i + j) c0) (.slice none 0 0) [] wr) := by
              have h := HI.out
              rw [show toA b i ++ toB j = toC i b by rw [toC_parts, show j = b by omega]] at h
              exact h
            obtain rfl : j = b := by omega
            clear HI hlen
            go_upto_region 16 with fail
            go_wp2
            clear s0 s2 s3 p0 p1 pf
            go_loopw [7] (fun s7 wr => ∃ (m : Nat) (F : Value), m ≤ i ∧ s7 = .int .i64 (m : Int) ∧ Hid (OfI W3 pb (toC i j) (.slice A0 (i + j) c0) F (frC false i j m) wr)) (fun s7 _ => i - (intOf s7).toNat)
            case atStart => exact ⟨0, _, Nat.zero_le _, rfl, HI2.out⟩
            case round =>
              clear HI2 hlt
              obtain ⟨m, F, hm, rfl, HI⟩ := hrel
              obtain ⟨p0, p1, pf, -, ⟨A2, c2, hF2⟩⟩ := HI.out.cells
              obtain ⟨s0, s2, s3⟩ := HSt.out wr HI.out.lo
              obtain ⟨x2, hx2⟩ : ∃ x, x = (frC false i j m).length := ⟨_, rfl⟩
              rw [← hx2] at hF2
              subst hF2
              have HX2 := Lib.hid hx2
              clear hx2
              by_cases hlt : m < i
              case pos =>
                have d1 : decide (m < i) = true := decide_eq_true hlt
                have d1' : decide ((m : Int) < (i : Int)) = true := decide_eq_true (by omega)
                clear hlt
                have HFe : Hid (frC false i j m = frC false i j (i + j)) := by
                  show _ = _
                  rw [frC_not, frC_not]
                have HR6 := Lib.hid (HR3.out.to HI.out.lo)
                obtain ⟨r0, r1⟩ : _ ∧ _ := ⟨HR6.out.c0, HR6.out.c1⟩
                have rf := HR6.out.fz
                have hlt6 := lt_of_cell r0
                have HP := Lib.hid (HR6.out.put (.slice A0 (i + j) c0) (.slice A2 x2 c2))
                have hI' := HI.out
                have ho := hI'.out (r := ofE ⟨kind, purl, (i : Int), (j : Int)⟩) HR3.out (by rw [HF.out, HFe.out])
                have HO := Lib.hid (ho.base HBs.out)
                clear HR6 HI HF HR3 HSt HX2 hI' ho HFe pf
                go_wp2
                exact rof_close HP.out.1 HP.out.2.1 rfl rfl HO.out
              case neg =>
                have d1 : decide (m < i) = false := decide_eq_false hlt
                have d1' : decide ((m : Int) < (i : Int)) = false := decide_eq_false (by omega)
                clear hlt
                have HFe : Hid (frC false i j m = frC false i j (i + j)) := by
                  show _ = _
                  rw [frC_not, frC_not]
                have HR6 := Lib.hid (HR3.out.to HI.out.lo)
                obtain ⟨r0, r1⟩ : _ ∧ _ := ⟨HR6.out.c0, HR6.out.c1⟩
                have rf := HR6.out.fz
                have hlt6 := lt_of_cell r0
                have HP := Lib.hid (HR6.out.put (.slice A0 (i + j) c0) (.slice A2 x2 c2))
                have hI' := HI.out
                have ho := hI'.out (r := ofE ⟨kind, purl, (i : Int), (j : Int)⟩) HR3.out (by rw [HF.out, HFe.out])
                have HO := Lib.hid (ho.base HBs.out)
                clear HR6 HI HF HR3 HSt HX2 hI' ho HFe pf
                go_wp2
                exact rof_close HP.out.1 HP.out.2.1 rfl rfl HO.out
  | true =>
    clear k7
    rw [Bool.not_true] at k6
    go_upto_region 5 with fail
    by_cases h8 : 8 < a + b
    · have d8 : decide (8 < a + b) = true := decide_eq_true h8
      have d8' : decide ((8 : Int) < (a : Int) + (b : Int)) = true := decide_eq_true (by omega)
      have HF : Hid (ofE ⟨kind, purl, (a : Int), (b : Int)⟩ = (⟨[], []⟩, 4)) := HE3'.out (by show (8 : Int) < (a : Int) + (b : Int); omega)
      clear h8 HE3' HE4' s0 s1 k6 k6'
      obtain ⟨r0, r1⟩ : _ ∧ _ := ⟨HR3.out.c0, HR3.out.c1⟩
      have rf := HR3.out.fz
      have hlt' := lt_of_cell r0
      have HP := Lib.hid (HR3.out.put (.slice none 0 0) (.slice none 0 0))
      have HO := Lib.hid ((HR3.out.stop HF.out).base HBs.out)
      clear HR3 HF 
      go_wp2
      exact rof_close HP.out.1 HP.out.2.1 rfl rfl HO.out
    have d8 : decide (8 < a + b) = false := decide_eq_false h8
    have d8' : decide ((8 : Int) < (a : Int) + (b : Int)) = false := decide_eq_false (by omega)
    have HF : Hid (ofE ⟨kind, purl, (a : Int), (b : Int)⟩ = (⟨toC a b, frC true a b (a + b)⟩, 0)) := by
      have h := HE4'.out (by omega)
      show _ = _
      rw [h]
      rfl
    have HO0 := Lib.hid (OfI.new W3)
    have hn8 : a + b ≤ 8 := by omega
    clear HE3' HE4' h8
    go_upto_region 8 with fail
    refine abs_world (Q := fun W => Code.wp _ _ _ _ W) (F := fun W => OfI W3 W3.heap.size [] (.slice none 0 0) (.slice none 0 0) [] W) _ HO0.out ?_
    clear HO0 d8 d8'
    obtain ⟨pb, hpb⟩ : ∃ pb, pb = W3.heap.size := ⟨_, rfl⟩
    have hs3l := lt_of_cell s3
    have hspb : w.heap.size ≠ pb := by omega
    have hspb' : pb ≠ w.heap.size := by omega
    have HSt := Lib.hid (fun W (h : Below W3.heap.size W3 W) => And.intro ((bcell h (lt_of_cell s0) _).trans s0) (And.intro ((bcell h (lt_of_cell s2) _).trans s2) ((bcell h (lt_of_cell s3) _).trans s3)))
    rw [← hpb]
    clear hpb s0 s1 s2 s3 hs3l
    intro W4 hO4
    have HO4 := Lib.hid hO4
    clear hO4
    go_wp2
    go_loopw [5] (fun s5 wr => ∃ (i : Nat) (V : Value), i ≤ a ∧ s5 = .int .i64 (i : Int) ∧ Hid (OfI W3 pb (toA b i) V (.slice none 0 0) [] wr)) (fun s5 _ => a - (intOf s5).toNat)
    case atStart => exact ⟨0, _, Nat.zero_le _, rfl, HO4.out⟩
    case round =>
      clear HO4
      obtain ⟨i, V, hi, rfl, HI⟩ := hrel
      obtain ⟨p0, p1, pf, ⟨A0, c0, hV⟩, -⟩ := HI.out.cells
      rw [toA_len] at hV
      subst hV
      obtain ⟨s0, s2, s3⟩ := HSt.out wr HI.out.lo
      by_cases hlt : i < a
      case pos =>
        obtain ⟨A1, c1, w9, hr, e0, ef, hb9, hI9⟩ := HI.out.pushTo ((b + i : Nat) : Int) (by rw [toA_len]; omega)
        rw [toA_len] at hr hI9
        rw [← toA_next] at hI9
        have hwib : IntKind.i64.wrap ((b : Int) + (i : Int)) = ((b + i : Nat) : Int) := by rw [IntWalk.i64_in _ (by omega)]; omega
        have hwic : (b : Int) + (i : Int) = ((b + i : Nat) : Int) := by omega
        generalize ((b + i : Nat) : Int) = rm at hr hwib hwic
        subst hwic
        have HI9 := Lib.hid hI9
        clear hI9 hb9 hwib HI
        go_wp2_with (at_builtin; refine wpList_append_run _ rfl _ _ _ _ rfl _ _ (by rfl) (by rfl) hr ?_)
        clear hr p0 p1 pf e0 ef s0 s2 s3
        go_roundw
        case rel => exact ⟨i + 1, _, by omega, by go_num, HI9.out⟩
        case measure => simp [intOf]; omega
      case neg =>
        have HI2 : Hid (OfI W3 pb (toA b a ++ toB 0) (.slice A0 a c0) (.slice none 0 0) [] wr) := by
          have h := HI.out
          rw [show i = a by omega] at h
          have e : toA b a ++ toB 0 = toA b a := List.append_nil _
          show OfI _ _ _ _ _ _ _
          rw [e]; exact h
        obtain rfl : i = a := by omega
        clear HI
        go_upto_region 12 with fail
        go_wp2
        clear s0 s2 s3 p0 p1 pf
        go_loopw [6] (fun s6 wr => ∃ (j : Nat) (V : Value), j ≤ b ∧ s6 = .int .i64 (j : Int) ∧ Hid (OfI W3 pb (toA b i ++ toB j) V (.slice none 0 0) [] wr)) (fun s6 _ => b - (intOf s6).toNat)
        case atStart => exact ⟨0, _, Nat.zero_le _, rfl, HI2.out⟩
        case round =>
          clear HI2 hlt
          obtain ⟨j, V, hj, rfl, HI⟩ := hrel
          obtain ⟨p0, p1, pf, ⟨A0, c0, hV⟩, -⟩ := HI.out.cells
          have hlen : (toA b i ++ toB j).length = i + j := by rw [List.length_append, toA_len, toB_len]
          rw [hlen] at hV
          subst hV
          obtain ⟨s0, s2, s3⟩ := HSt.out wr HI.out.lo
          by_cases hlt : j < b
          case pos =>
            obtain ⟨A1, c1, w9, hr, e0, ef, hb9, hI9⟩ := HI.out.pushTo (j : Int) (by rw [hlen]; omega)
            rw [hlen] at hr hI9
            rw [List.append_assoc, ← toB_next] at hI9
            have HI9 := Lib.hid hI9
            clear hI9 hb9 hlen HI
            go_wp2_with (at_builtin; refine wpList_append_run _ rfl _ _ _ _ rfl _ _ (by rfl) (by rfl) hr ?_)
            clear hr p0 p1 pf e0 ef s0 s2 s3
            go_roundw
            case rel => exact ⟨j + 1, _, by omega, by go_num, HI9.out⟩
            case measure => simp [intOf]; omega
          case neg =>
            have HI2 : Hid (OfI W3 pb (toC i b) (.slice A0 (i + j) c0) (.slice none 0 0) [] wr) := by
              have h := HI.out
              rw [show toA b i ++ toB j = toC i b by rw [toC_parts, show j = b by omega]] at h
              exact h
            obtain rfl : j = b := by omega
            clear HI hlen
            go_upto_region 16 with fail
            go_wp2
            clear s0 s2 s3 p0 p1 pf
            go_loopw [7] (fun s7 wr => ∃ (m : Nat) (F : Value), m ≤ i ∧ s7 = .int .i64 (m : Int) ∧ Hid (OfI W3 pb (toC i j) (.slice A0 (i + j) c0) F (frC true i j m) wr)) (fun s7 _ => i - (intOf s7).toNat)
            case atStart => exact ⟨0, _, Nat.zero_le _, rfl, HI2.out⟩
            case round =>
              clear HI2 hlt
              obtain ⟨m, F, hm, rfl, HI⟩ := hrel
              obtain ⟨p0, p1, pf, -, ⟨A2, c2, hF2⟩⟩ := HI.out.cells
              obtain ⟨s0, s2, s3⟩ := HSt.out wr HI.out.lo
              obtain ⟨x2, hx2⟩ : ∃ x, x = (frC true i j m).length := ⟨_, rfl⟩
              rw [← hx2] at hF2
              subst hF2
              have HX2 := Lib.hid hx2
              clear hx2
              by_cases hlt : m < i
              case neg =>
                have d1 : decide (m < i) = false := decide_eq_false hlt
                have d1' : decide ((m : Int) < (i : Int)) = false := decide_eq_false (by omega)
                have HFe : Hid (frC true i j m = frC true i j (i + j)) := by
                  show _ = _
                  rw [show m = i by omega, frC_all]
                have HR6 := Lib.hid (HR3.out.to HI.out.lo)
                obtain ⟨r0, r1⟩ : _ ∧ _ := ⟨HR6.out.c0, HR6.out.c1⟩
                have rf := HR6.out.fz
                have hlt6 := lt_of_cell r0
                have HP := Lib.hid (HR6.out.put (.slice A0 (i + j) c0) (.slice A2 x2 c2))
                have hI' := HI.out
                have ho := hI'.out (r := ofE ⟨kind, purl, (i : Int), (j : Int)⟩) HR3.out (by rw [HF.out, HFe.out])
                have HO := Lib.hid (ho.base HBs.out)
                clear HR6 HI HF HR3 HSt HX2 hI' ho HFe pf
                go_wp2
                exact rof_close HP.out.1 HP.out.2.1 rfl rfl HO.out
              case pos =>
                have d1 : decide (m < i) = true := decide_eq_true hlt
                have d1' : decide ((m : Int) < (i : Int)) = true := decide_eq_true (by omega)
                have HI2 : Hid (OfI W3 pb (toC i j) (.slice A0 (i + j) c0) (.slice A2 x2 c2) (frC true i j m ++ frK true i m 0) wr) := by
                  show OfI _ _ _ _ _ _ _
                  rw [frK_zero, List.append_nil]; exact HI.out
                have hx2l : x2 ≤ 1000 := by
                  rw [HX2.out]
                  have h1 := frC_len true i j m
                  have h3 : m * j ≤ 8 * 8 := Nat.mul_le_mul (by omega) (by omega)
                  omega
                clear HI
                go_upto_region 19 with fail
                go_wp2
                clear s0 s2 s3 p0 p1 pf d1 d1' HX2
                go_loopw [8] (fun s8 wr => ∃ (k : Nat) (F : Value), k ≤ j ∧ s8 = .int .i64 (k : Int) ∧ Hid (OfI W3 pb (toC i j) (.slice A0 (i + j) c0) F (frC true i j m ++ frK true i m k) wr)) (fun s8 _ => j - (intOf s8).toNat)
                case atStart => exact ⟨0, _, Nat.zero_le _, rfl, HI2.out⟩
                case round =>
                  clear HI2 hx2l
                  obtain ⟨k, F, hk, rfl, HI⟩ := hrel
                  obtain ⟨p0, p1, pf, -, ⟨A4, c4, hF4⟩⟩ := HI.out.cells
                  obtain ⟨s0, s2, s3⟩ := HSt.out wr HI.out.lo
                  obtain ⟨x4, hx4⟩ : ∃ x, x = (frC true i j m ++ frK true i m k).length := ⟨_, rfl⟩
                  have hx4l : x4 ≤ 1000 := by
                    rw [hx4, List.length_append]
                    have h1 := frC_len true i j m
                    have h2 := frK_len true i m k
                    have h3 : m * j ≤ 8 * 8 := Nat.mul_le_mul (by omega) (by omega)
                    omega
                  rw [← hx4] at hF4
                  subst hF4
                  by_cases hlk : k < j
                  case pos =>
                    obtain ⟨A6, c6, w6, hr6, y1, yf, hI6⟩ := HI.out.pushFr (m : Int) ((i + k : Nat) : Int) (by rw [← hx4]; omega)
                    rw [← hx4] at hr6 hI6
                    rw [List.append_assoc, ← frK_next ⟨rfl, hlt⟩] at hI6
                    have hwic : (i : Int) + (k : Int) = ((i + k : Nat) : Int) := by omega
                    generalize ((i + k : Nat) : Int) = rm at hr6 hwic
                    subst hwic
                    have HI6 := Lib.hid hI6
                    have z1' := cell_al p1 (.cells #[.int .i64 (m : Int), .int .i64 ((i : Int) + (k : Int))] 66)
                    clear hI6 HI hx4
                    go_wp2_with (at_builtin; refine wpList_append_run _ rfl _ _ _ _ rfl _ _ (by rfl) (by rfl) hr6 ?_)
                    clear hr6 p0 p1 z1' y1 yf pf s0 s2 s3
                    go_roundw
                    case rel => exact ⟨k + 1, _, by omega, by go_num, HI6.out⟩
                    case measure => simp [intOf]; omega
                  case neg =>
                    have HI6 : Hid (OfI W3 pb (toC i j) (.slice A0 (i + j) c0) (.slice A4 x4 c4) (frC true i j (m + 1)) wr) := by
                      have h := HI.out
                      rw [show k = j by omega, ← frC_next] at h
                      exact h
                    clear HI hx4
                    go_wp2
                    clear s0 s2 s3 p0 p1 pf
                    go_roundw
                    case rel => exact ⟨m + 1, _, by omega, by go_num, HI6.out⟩
                    case measure => simp [intOf]; omega
end Go.Proofs.Ytodjkifcbgmckaa
