/- Layer 32: the program's Plan, walked. -/
import Derived.Test.YtflpikickbellaaGreatKQ15
namespace Go.Proofs.YtflpikickbellaaGreat
open Go.RowKit Go.Shelf Go.Sort
set_option maxRecDepth 100000

def frontM (m : List Nat) (k : Nat) : List Ins := (m.take k).map xferF
theorem frontM_next {m : List Nat} {k i : Nat} (h : m[k]? = some i) : frontM m (k + 1) = frontM m k ++ [xferF i] := by
  obtain ⟨hk, e⟩ := List.getElem?_eq_some_iff.1 h
  unfold frontM
  rw [List.take_succ_eq_append_getElem hk, e, List.map_append]
  rfl
theorem frontM_len (m : List Nat) (k : Nat) : (frontM m k).length ≤ k := by
  unfold frontM
  rw [List.length_map, List.length_take]
  omega
theorem frontM_all (s : Sft) : frontM (movedL s) (movedL s).length = frontP s s.n := by
  unfold frontM movedL frontP
  rw [List.take_length]
theorem movedL_len (s : Sft) : (movedL s).length ≤ s.n := by
  unfold movedL
  have := List.length_filter_le (movedN s) (List.range s.n)
  rwa [List.length_range] at this
/-- The box, the list, the sorted loops. -/
structure PlS (B ob : Nat) (v vs : Value) (O : List Ins) (ms : List Int) (W1 W : World) : Prop where
  own : Owns W B [bxO 29 ob v, pxO v O, pxJ vs ms]
  lo : Below B W1 W
theorem PlS.to {B ob : Nat} {v vs : Value} {O : List Ins} {ms : List Int} {W1 W W' : World} (h : PlS B ob v vs O ms W1 W) (hB : B ≤ W.heap.size) (hb : Below W.heap.size W W') : PlS B ob v vs O ms W1 W' := ⟨h.own.to hb, h.lo.trans (hb.mono hB)⟩
theorem pxJ_read {w : World} {B : Nat} {vs : Value} {l : List Int} {L : List Own} (h : Owns w B L) (hm : pxJ vs l ∈ L) : ∃ a c, vs = .slice a l.length c ∧ SlI w w.heap.size a l := by
  have h0 : Owns w B [pxJ vs l] := ⟨fun o ho => by rw [List.mem_singleton.1 ho]; exact h.all _ hm, List.pairwise_singleton _ _⟩
  obtain ⟨a, c, rfl⟩ := pxJ_form h0
  exact ⟨a, c, rfl, pxJ_sl h0⟩
set_option maxHeartbeats 32000000 in
theorem pplan_any (A F : Option Addr) (c fc : Nat) (s : Sft) (hl : s.to_.length ≤ 4611686018427387904) (hf : s.first.length ≤ 4611686018427387904) (w : World) (h : SfAt A F s w) :
    Calls Tryz.prog 8 #[sftV A F c fc s] w fun e w' => IPost w (plE s) e w' := by
  have hb0 := al_t w (sftB A F c fc s)
  have HX0 : Hid (SfBx w.heap.size A F c fc s (w.alloc (sftB A F c fc s)) ∧ Below w.heap.size w (w.alloc (sftB A F c fc s))) := ⟨SfBx.new c fc h, hb0⟩
  have c0 := HX0.out.1.c0
  have c1 := HX0.out.1.c1
  have HO := Lib.hid (pplnd_any A F c fc s hl hf _ HX0.out.1.at_)
  have hmf : ∀ (fn : Fn) (first cap : Array Value) (w : World), (Instr.makeFunc fn first cap).run Tryz.prog w = .ok (.func fn first cap) w := fun _ _ _ _ => rfl
  obtain ⟨r, hr⟩ : ∃ r, r = plE s := ⟨_, rfl⟩
  rw [← hr]
  clear h hb0
  by_cases hE : (plndE s).2 = 0
  case neg =>
    have HR : Hid (r = ([], (plndE s).2)) := by show _ = _; rw [hr, plE_e hE]
    have d0 : ((plndE s).2 != 0) = true := by simpa using hE
    have HO2 := Lib.hid (show Calls _ _ _ _ fun e w' => ∃ a n k, e = .returned (.tuple #[.slice a n k, .int .i64 (plndE s).2]) ∧ Below (w.alloc (sftB A F c fc s)).heap.size (w.alloc (sftB A F c fc s)) w' from Calls.mono HO.out fun e w' ⟨a, k, he, _, hb⟩ => ⟨a, _, k, he, hb⟩)
    obtain ⟨x, hx⟩ : ∃ x, x = (plndE s).2 := ⟨_, rfl⟩
    rw [← hx] at HR d0 HO2
    clear hr hE hx HO hmf
    go_enter Tryz.func8, Tryz.ntmps8
    go_wp2_with fail
    refine HO2.out.mono ?_
    rintro e w1 ⟨a, n, k, rfl, hb1⟩
    have HB := Lib.hid (HX0.out.2.trans (hb1.mono HX0.out.2.size))
    clear hb1
    go_wp2
    go_ret2
    exact IPost.none HR.out HB.out
  case pos =>
  obtain ⟨hle, hsz⟩ := plndE_l hE
  have hs := sftE_ok hsz
  have HS := Lib.hid hs
  have hn40 : s.to_.length ≤ 40 := hs.len
  have hE0 : (ordE s).2 = 0 := by
    unfold plndE at hE
    split at hE
    · rename_i h1; exact absurd hE h1
    · rename_i h1; simpa using h1
  have hF := ordE_F hE0
  rw [← hle] at hF
  have HOk : Hid (r = (plnI s (plndE s).1, 0)) := hr.trans (plE_ok hE)
  have HO2 := Lib.hid (show Calls _ _ _ _ fun e w' => ∃ a k, e = .returned (.tuple #[.slice a (plndE s).1.length k, .int .i64 0]) ∧ SlI w' w'.heap.size a (plndE s).1 ∧ Below (w.alloc (sftB A F c fc s)).heap.size (w.alloc (sftB A F c fc s)) w' from Calls.mono HO.out fun e w' ⟨a, k, he, hsl, hb⟩ => ⟨a, k, by rw [he, hE], hsl, hb⟩)
  have hok := ordE_ok s
  rw [← hle] at hok
  obtain ⟨l, hlE⟩ : ∃ l, l = (plndE s).1 := ⟨_, rfl⟩
  rw [← hlE] at HO2 HOk hok hF
  have HLk := Lib.hid hok.1
  have hll : l.length ≤ 40 := Nat.le_trans hok.2 hn40
  have HPl := Lib.hid (fun k (hk : k ≤ l.length) => runP_len hok.1 k hk)
  have HSz := Lib.hid (ordF_sorted hF)
  have HMl := Lib.hid (movedL_len s)
  have HFa := Lib.hid (frontM_all s)
  obtain ⟨pb, hpb⟩ : ∃ pb, pb = w.heap.size := ⟨_, rfl⟩
  clear hr hE hs HO hlE hle hsz hok hF hE0
  go_enter Tryz.func8, Tryz.ntmps8
  go_upto_region 4 with ((go_at_call 25; refine HO2.out.mono ?_; rintro e w1 ⟨a, kc, rfl, hsl, hb1⟩))
  refine abs_world (Q := fun W => Code.wp _ _ _ _ W) (F := fun W => SfBx w.heap.size A F c fc s W ∧ SlI W W.heap.size a l ∧ Below w.heap.size w W) _ ⟨HX0.out.1.to hb1, hsl, HX0.out.2.trans (hb1.mono HX0.out.2.size)⟩ ?_
  clear HX0 c0 c1 hb1 hsl HO2
  rintro W1 ⟨hx, hsl, hb1⟩
  rw [← hpb] at hx ⊢
  have HXs : Hid (∀ W, Below W1.heap.size W1 W → SfBx pb A F c fc s W ∧ SlI W W.heap.size a l ∧ Below w.heap.size w W) := fun W hb => ⟨hx.to hb, (hsl.below hb).more hb.size, hb1.trans (hb.mono hb1.size)⟩
  have hba := al_t W1 (.cells #[.slice none 0 0] 29)
  obtain ⟨ob, hob⟩ : ∃ ob, ob = W1.heap.size := ⟨_, rfl⟩
  have HOb : Hid (Owns (W1.alloc (.cells #[.slice none 0 0] 29)) W1.heap.size [bxO 29 ob (.slice none 0 0), pxO (.slice none 0 0) []] ∧ Below W1.heap.size W1 (W1.alloc (.cells #[.slice none 0 0] 29))) := by
    rw [hob]
    exact ⟨((Owns.nil.none 63 7).add hba (Nat.le_refl _) (bxO_new W1 _ _)), hba⟩
  clear hx hsl hb1 hpb hba
  go_upto_region 5 with fail
  rw [← hob]
  refine abs_world (Q := fun W => Code.wp _ _ _ _ W) (F := fun W => Owns W W1.heap.size [bxO 29 ob (.slice none 0 0), pxO (.slice none 0 0) []] ∧ Below W1.heap.size W1 W) _ HOb.out ?_
  clear HOb hob
  rintro W2 ⟨h2, hb2⟩
  have hal := al_t W2 (.cells #[.slice a l.length kc] 22)
  have HV := Lib.hid (values_any a l.length kc W2)
  have HSo := Lib.hid (sorted_any W2.heap.size a kc l (by omega) (W2.alloc (.cells #[.slice a l.length kc] 22)) (by simp) (cell_new rfl rfl rfl) (((HXs.out W2 hb2).2.1.below hal).more hal.size))
  have HW2 : Hid (Owns (W2.alloc (.cells #[.slice a l.length kc] 22)) W1.heap.size [bxO 29 ob (.slice none 0 0), pxO (.slice none 0 0) []] ∧ Below W1.heap.size W1 (W2.alloc (.cells #[.slice a l.length kc] 22))) := ⟨h2.to hal, hb2.trans (hal.mono hb2.size)⟩
  obtain ⟨m, hm⟩ : ∃ m, m = movedL s := ⟨_, rfl⟩
  obtain ⟨ms, hms⟩ : ∃ ms, ms = m.map fun k : Nat => (k : Int) := ⟨_, rfl⟩
  have HMs := Lib.hid hms
  have HMz : Hid (sortZ l = ms) := by show _ = _; rw [HSz.out, hms, hm]
  have HFm : Hid (frontM m m.length = frontP s s.n) := by show _ = _; rw [hm]; exact HFa.out
  have hmn : ms.length ≤ 40 := by rw [hms, List.length_map, hm]; have := HMl.out; have e : s.n = s.to_.length := rfl; omega
  have HLe : Hid (ms.length = m.length) := by show _ = _; rw [hms, List.length_map]
  clear h2 hb2 hal hm hms HSz HMl HFa
  go_wp2_with fail
  refine HV.out.mono ?_
  rintro e w3 ⟨rfl, rfl⟩
  go_wp2_with fail
  refine HSo.out.mono ?_
  rintro e w4 ⟨vs, rfl, hown, hb4⟩
  rw [HMz.out] at hown
  have ho4 : Owns w4 W1.heap.size (pxJ vs ms :: [bxO 29 ob (.slice none 0 0), pxO (.slice none 0 0) []]) := HW2.out.1.add hb4 HW2.out.2.size hown
  obtain ⟨av, cv, rfl⟩ := pxJ_form ho4
  have hp4 : PlS W1.heap.size ob (.slice none 0 0) (.slice av ms.length cv) (frontM m 0) ms W1 w4 := ⟨ho4.perm ((List.Perm.swap _ _ _).trans (List.Perm.cons _ (List.Perm.swap _ _ _))), HW2.out.2.trans (hb4.mono HW2.out.2.size)⟩
  have HP4 := Lib.hid hp4
  clear hp4 ho4 hown hb4 HSo HV HW2 HMz
  go_wp2
  go_loopw [25] (fun s25 wr => ∃ k : Nat, k ≤ ms.length ∧ s25 = .int .i64 (k : Int) ∧ Hid (∃ v, PlS W1.heap.size ob v (.slice av ms.length cv) (frontM m k) ms W1 wr)) (fun s25 _ => ms.length - (intOf s25).toNat)
  case atStart => exact ⟨0, Nat.zero_le _, rfl, _, HP4.out⟩
  case round =>
    obtain ⟨k, hk, rfl, HP⟩ := hrel
    clear HP4
    obtain ⟨W, hW⟩ : ∃ x : World, x = wr := ⟨_, rfl⟩
    rw [← hW] at HP ⊢
    clear hW
    obtain ⟨v, hP⟩ := HP.out
    clear HP
    obtain ⟨a6, c6, rfl⟩ := pxO_form hP.own.tail
    obtain ⟨o0, o1⟩ := bxO_at hP.own.head
    have hfl := frontM_len m k
    by_cases hlt : k < ms.length
    case pos =>
      obtain ⟨a2, c2, e2, hsl⟩ := pxJ_read (vs := .slice av ms.length cv) (l := ms) hP.own (by simp)
      cases e2
      obtain ⟨b, off, x, hA, -, hx, hcx⟩ := hsl.at_ hlt
      obtain ⟨i, hi, hmi⟩ : ∃ i : Nat, x = (i : Int) ∧ m[k]? = some i := by
        rw [HMs.out, List.getElem?_map] at hx
        cases hmk : m[k]? with
        | none => rw [hmk] at hx; cases hx
        | some i => rw [hmk] at hx; exact ⟨i, by simpa using hx.symm, rfl⟩
      subst hi
      have HNx := Lib.hid (frontM_next hmi)
      obtain ⟨O, hO⟩ : ∃ O, O = frontM m k := ⟨_, rfl⟩
      rw [← hO] at hP hfl HNx o0
      obtain ⟨A9, k9, v9, hr9, q0, q1, ho9, hb9⟩ := plm_push hP.own hP.lo.size (by omega) (xferF i)
      have hr : (Builtin.append_ #[29, 29] 29 #[.slice a6 O.length c6, .slice (some ⟨W.heap.size, 0, none⟩) 1 1]).run Tryz.prog (W.alloc (.cells #[.int .u8 7, .bool false, .int .u8 0, .int .i64 (i : Int), .int .i64 (i : Int), .int .i64 0, .int .i64 0] 63)) = .ok (.slice A9 (O.length + 1) k9) v9 := hr9
      have HP9 : Hid (PlS W1.heap.size ob (.slice A9 (O.length + 1) k9) (.slice av ms.length cv) (frontM m (k + 1)) ms W1 (v9.setCell ⟨ob, 0, none⟩ (.slice A9 (O.length + 1) k9))) := by
        show PlS _ _ _ _ _ _ _ _
        rw [HNx.out]; exact ⟨ho9, hP.lo.trans hb9⟩
      subst hA
      clear hP hsl hx hmi hr9 ho9 hb9 HNx hO
      go_wp2_with (at_builtin; refine wpList_append_run _ rfl _ _ _ _ rfl _ _ (by rfl) (by rfl) hr ?_)
      go_roundw
      case rel => exact ⟨k + 1, by omega, by go_num, _, HP9.out⟩
      case measure => simp [intOf]; omega
    case neg =>
      obtain rfl : k = ms.length := by omega
      have hba := al_t W (.cells #[.int .i64 0] 3)
      obtain ⟨rb, hrb⟩ : ∃ rb, rb = W.heap.size := ⟨_, rfl⟩
      have HO0 : Hid (Owns (W.alloc (.cells #[.int .i64 0] 3)) W1.heap.size (PlO rb ob (runP s l 0).1 (.slice a6 (frontM m ms.length).length c6) (.slice av ms.length cv) (runP s l 0).2 ms) ∧ Below W1.heap.size W1 (W.alloc (.cells #[.int .i64 0] 3))) := by
        have e : (runP s l 0).2 = frontM m ms.length := by rw [runP_zero, HLe.out, HFm.out]
        rw [e, hrb]
        exact ⟨hP.own.add hba hP.lo.size (bxO_new W _ _), hP.lo.trans (hba.mono hP.lo.size)⟩
      obtain ⟨v0, hv0⟩ : ∃ v0, v0 = Value.slice a6 (frontM m ms.length).length c6 := ⟨_, rfl⟩
      rw [← hv0] at HO0
      clear hP hba o0 o1 hv0 hfl hlt hk
      go_upto_region 11 with fail
      rw [← hrb]
      refine abs_world (Q := fun W => Code.wp _ _ _ _ W) (F := fun W => Owns W W1.heap.size (PlO rb ob (runP s l 0).1 v0 (.slice av ms.length cv) (runP s l 0).2 ms) ∧ Below W1.heap.size W1 W) _ HO0.out ?_
      clear HO0 hrb
      intro W5 h5
      have H5 := Lib.hid h5
      clear h5
      go_wp2
      go_loopw [39] (fun s39 wr => ∃ k : Nat, k ≤ l.length ∧ s39 = .int .i64 (k : Int) ∧ Hid ((∃ v, Owns wr W1.heap.size (PlO rb ob (runP s l k).1 v (.slice av ms.length cv) (runP s l k).2 ms)) ∧ Below W1.heap.size W1 wr)) (fun s39 _ => l.length - (intOf s39).toNat)
      case atStart => exact ⟨0, Nat.zero_le _, rfl, ⟨_, H5.out.1⟩, H5.out.2⟩
      case round =>
        obtain ⟨k, hk, rfl, HP⟩ := hrel
        clear H5
        obtain ⟨W, hW⟩ : ∃ x : World, x = wr := ⟨_, rfl⟩
        rw [← hW] at HP ⊢
        clear hW
        have hpl := HPl.out k hk
        have hpl2 : (runP s l k).2.length ≤ 200 := by have e : s.n = s.to_.length := rfl; omega
        obtain ⟨⟨v, hown⟩, hlo⟩ := HP.out
        clear HP hpl
        by_cases hlt : k < l.length
        case pos =>
          obtain ⟨hxW, hslW, -⟩ := HXs.out W hlo
          obtain ⟨b, off, x, hA, -, hx, hcx⟩ := hslW.at_ hlt
          obtain ⟨i, hxi, hil⟩ := HLk.out x (List.mem_of_getElem? hx)
          subst hxi
          have hil' : i < s.to_.length := hil
          have HNx := Lib.hid (runP_next (s := s) hx)
          obtain ⟨b2, off2, hA2, hcl⟩ := hxW.to_at hil
          have c0 := hxW.c0
          obtain ⟨z0, z1, -⟩ := HS.out.to_ i hil
          have HF : Hid (offN s i = s.to_.getD i 0 - (i : Int)) := rfl
          obtain ⟨z, hz⟩ : ∃ z, z = s.to_.getD i 0 := ⟨_, rfl⟩
          rw [← hz] at hcl z0 z1 HF
          obtain ⟨now, hnow⟩ : ∃ now, now = (runP s l k).1 := ⟨_, rfl⟩
          obtain ⟨O, hO⟩ : ∃ O, O = (runP s l k).2 := ⟨_, rfl⟩
          rw [← hnow, ← hO] at hown
          rw [← hO] at hpl2
          have HTn := Lib.hid (pturn_any W1.heap.size rb ob now (z - (i : Int)) v (.slice av ms.length cv) O ms W hlo.size (by omega) hown)
          obtain ⟨O2, hO2⟩ : ∃ O2, O2 = O ++ turnI now (z - (i : Int)) := ⟨_, rfl⟩
          have hO2l : O2.length ≤ 201 := by rw [hO2, List.length_append]; have := turnI_len now (z - (i : Int)); omega
          rw [← hO2] at HTn
          have HN2 : Hid (runP s l (k + 1) = (z - (i : Int), O2 ++ [xferB i z])) := by
            show _ = _
            rw [HNx.out, HF.out, ← hz, hO2, hO, hnow, List.append_assoc]
          have HLo := Lib.hid hlo
          have HZ : Hid (z = s.to_.getD i 0) := hz
          subst hA hA2
          clear hown hxW hslW hx HNx hz hnow hO hO2 HF hlo
          go_wp2_with fail
          refine HTn.out.mono ?_
          rintro e w6 ⟨rfl, ⟨v6, ho6⟩, hb6⟩
          go_upto_region 16 with fail
          have hlo6 := HLo.out.trans hb6
          obtain ⟨hx6, -, -⟩ := HXs.out w6 hlo6
          obtain ⟨b3, off3, hA3, hcl3⟩ := hx6.to_at hil
          cases hA3
          have c06 := hx6.c0
          have hcz : w6.cell? ⟨b2, off2 + i, none⟩ = some (.int .i64 z) := by rw [HZ.out]; exact hcl3
          unfold PlO at ho6
          obtain ⟨a8, c8, rfl⟩ := pxO_form ho6.tail.tail
          obtain ⟨p0, p1⟩ := bxO_at ho6.tail.head
          have p0a := cell_al p0 (.cells #[.int .u8 7, .bool false, .int .u8 1, .int .i64 (i : Int), .int .i64 z, .int .i64 0, .int .i64 0] 63)
          have hbd : Below w6.heap.size w6 w6.drew := Below.drew (Below.refl _ _)
          have hop : Owns w6.drew W1.heap.size (bxO 29 ob (.slice a8 O2.length c8) :: pxO (.slice a8 O2.length c8) O2 :: bxO 3 rb (.int .i64 (z - (i : Int))) :: [pxJ (.slice av ms.length cv) ms]) := (ho6.to hbd).perm ((List.Perm.swap _ _ _).trans (List.Perm.cons _ (List.Perm.swap _ _ _)))
          obtain ⟨A9, k9, v9, hr9, q0, q1, ho9, hb9⟩ := plm_push hop hlo6.size (by omega) (xferB i z)
          have hr : (Builtin.append_ #[29, 29] 29 #[.slice a8 O2.length c8, .slice (some ⟨w6.heap.size, 0, none⟩) 1 1]).run Tryz.prog ((w6.alloc (.cells #[.int .u8 7, .bool false, .int .u8 1, .int .i64 (i : Int), .int .i64 z, .int .i64 0, .int .i64 0] 63)).drew) = .ok (.slice A9 (O2.length + 1) k9) v9 := hr9
          have HP9 : Hid ((∃ v, Owns (v9.setCell ⟨ob, 0, none⟩ (.slice A9 (O2.length + 1) k9)) W1.heap.size (PlO rb ob (runP s l (k + 1)).1 v (.slice av ms.length cv) (runP s l (k + 1)).2 ms)) ∧ Below W1.heap.size W1 (v9.setCell ⟨ob, 0, none⟩ (.slice A9 (O2.length + 1) k9))) := by
            show _ ∧ _
            rw [HN2.out]
            exact ⟨⟨_, ho9.perm ((List.Perm.cons _ (List.Perm.swap _ _ _)).trans (List.Perm.swap _ _ _))⟩, hlo6.trans ((hbd.mono hlo6.size).trans hb9)⟩
          clear hb6 hx6 hcl3 ho6 hop hr9 ho9 hb9 hbd hlo6 HN2 c0 hcx hcl
          go_region_law (refine step_append_run (by rfl) _ _ _ _ (by rfl) _ _ (by rfl) (by rfl) hr ?_)
          all_goals
            go_wp2
            go_roundw
            case rel => exact ⟨k + 1, by omega, by go_num, HP9.out⟩
            case measure => simp [intOf]; omega
        case neg =>
          obtain rfl : k = l.length := by omega
          obtain ⟨now, hnow⟩ : ∃ now, now = (runP s l l.length).1 := ⟨_, rfl⟩
          obtain ⟨O, hO⟩ : ∃ O, O = (runP s l l.length).2 := ⟨_, rfl⟩
          rw [← hnow, ← hO] at hown
          rw [← hO] at hpl2
          have HEnd : Hid (r = (O ++ turnI now 0, 0)) := by show _ = _; rw [HOk.out, hO, hnow]; rfl
          have HTn := Lib.hid (pturn_any W1.heap.size rb ob now 0 v (.slice av ms.length cv) O ms W hlo.size (by omega) hown)
          obtain ⟨O2, hO2⟩ : ∃ O2, O2 = O ++ turnI now 0 := ⟨_, rfl⟩
          rw [← hO2] at HTn HEnd
          have HLo := Lib.hid hlo
          clear hown hlo hnow hO hO2 hpl2 hlt hk
          go_wp2_with fail
          refine HTn.out.mono ?_
          rintro e w6 ⟨rfl, ⟨v6, ho6⟩, hb6⟩
          unfold PlO at ho6
          obtain ⟨a8, c8, rfl⟩ := pxO_form ho6.tail.tail
          obtain ⟨p0, p1⟩ := bxO_at ho6.tail.head
          have HSl := Lib.hid (pxO_sl ho6.tail.tail)
          have HB6 := Lib.hid (HXs.out w6 (HLo.out.trans hb6)).2.2
          clear ho6 hb6
          go_wp2
          go_ret2
          exact IPost.some_ HEnd.out rfl HSl.out HB6.out
end Go.Proofs.YtflpikickbellaaGreat
