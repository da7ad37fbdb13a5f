/- Layer 32. -/
import Derived.Test.YtflpikickbellaaGreatZ49
namespace Go.Proofs.YtflpikickbellaaGreat
open Go.RowKit Go.Shelf Go.Sort
set_option maxRecDepth 100000
def frontM (m : List Nat) (k : Nat) : List Ins := (m.take k).map xferF
theorem frontM_next {m : List Nat} {k i : Nat} (h : m[k]? = some i) : frontM m (k + 1) = frontM m k ++ [xferF i] := by
 obtain ⟨hk, e⟩ := List.getElem?_eq_some_iff.1 h
 unfold frontM
 rw [List.take_succ_eq_append_getElem hk, e, List.map_append]
 rfl
theorem frontM_len (m : List Nat) (k : Nat) : (frontM m k).length ≤ k := by
 unfold frontM
 rw [List.length_map, List.length_take]
 omega
theorem frontM_all (s : Sft) : frontM (movedL s) (movedL s).length = frontP s s.n := by
 unfold frontM movedL frontP
 rw [List.take_length]
theorem movedL_len (s : Sft) : (movedL s).length ≤ s.n := by
 unfold movedL
 have := List.length_filter_le (movedN s) (List.range s.n)
 rwa [List.length_range] at this
structure PlS (B ob : Nat) (v vs : Value) (O : List Ins) (ms : List Int) (W1 W : World) : Prop where
 own : Owns W B [bxO 29 ob v, pxO v O, pxJ vs ms]
 lo : Below B W1 W
theorem pxJ_read {w : World} {B : Nat} {vs : Value} {l : List Int} {L : List Own} (h : Owns w B L) (hm : pxJ vs l ∈ L) : ∃ a c, vs = .slice a l.length c ∧ SlI w w.heap.size a l := by
 have h0 : Owns w B [pxJ vs l] := ⟨fun o ho => by rw [List.mem_singleton.1 ho]; exact h.all _ hm, List.pairwise_singleton _ _⟩
 obtain ⟨a, c, rfl⟩ := pxJ_form h0
 exact ⟨a, c, rfl, pxJ_sl h0⟩
set_option maxHeartbeats 32000000 in
theorem pplan_any (A F : Option Addr) (c fc : Nat) (s : Sft) (hl : s.to_.length ≤ 4611686018427387904) (hf : s.first.length ≤ 4611686018427387904) (w : World) (h : SfAt A F s w) :
 Calls Tryz.prog 8 #[sftV A F c fc s] w fun e w' => IPost w (plE s) e w' := by
 have hb0 := al_t w (sftB A F c fc s)
 have HX0 : Hid (SfBx w.heap.size A F c fc s (w.alloc (sftB A F c fc s)) ∧ Below w.heap.size w (w.alloc (sftB A F c fc s))) := ⟨SfBx.new c fc h, hb0⟩
 have c0 := HX0.out.1.c0
 have c1 := HX0.out.1.c1
 have HO := Lib.hid (pplnd_any A F c fc s hl hf _ HX0.out.1.at_)
 have hmf : ∀ (fn : Fn) (first cap : Array Value) (w : World), (Instr.makeFunc fn first cap).run Tryz.prog w = .ok (.func fn first cap) w := fun _ _ _ _ => rfl
 obtain ⟨r, hr⟩ : ∃ r, r = plE s := ⟨_, rfl⟩
 rw [← hr]
 clear h hb0
 by_cases hE : (plndE s).2 = 0
 case neg =>
  have HR : Hid (r = ([], (plndE s).2)) := by show _ = _; rw [hr, plE_e hE]
  have d0 : ((plndE s).2 != 0) = true := by simpa using hE
  have HO2 := Lib.hid (show Calls _ _ _ _ fun e w' => ∃ a n k, e = .returned (.tuple #[.slice a n k, .int .i64 (plndE s).2]) ∧ Below (w.alloc (sftB A F c fc s)).heap.size (w.alloc (sftB A F c fc s)) w' from Calls.mono HO.out fun e w' ⟨a, k, he, _, hb⟩ => ⟨a, _, k, he, hb⟩)
  obtain ⟨x, hx⟩ : ∃ x, x = (plndE s).2 := ⟨_, rfl⟩
  rw [← hx] at HR d0 HO2
  clear hr hE hx HO hmf
  go_enter Tryz.func8, Tryz.ntmps8
  go_wp2_with fail
  refine HO2.out.mono ?_
  rintro e w1 ⟨a, n, k, rfl, hb1⟩
  have HB := Lib.hid (HX0.out.2.trans (hb1.mono HX0.out.2.size))
  clear hb1
  go_wp2
  go_ret2
  exact IPost.none HR.out HB.out
 case pos =>
 obtain ⟨hle, hsz⟩ := plndE_l hE
 have hs := sftE_ok hsz
 have HS := Lib.hid hs
 have hn40 : s.to_.length ≤ 40 := hs.len
 have hE0 : (ordE s).2 = 0 := by
  unfold plndE at hE
  split at hE
  · rename_i h1; exact absurd hE h1
  · rename_i h1; simpa using h1
 have hF := ordE_F hE0
 rw [← hle] at hF
 have HOk : Hid (r = (plnI s (plndE s).1, 0)) := hr.trans (plE_ok hE)
 have HO2 := Lib.hid (show Calls _ _ _ _ fun e w' => ∃ a k, e = .returned (.tuple #[.slice a (plndE s).1.length k, .int .i64 0]) ∧ SlI w' w'.heap.size a (plndE s).1 ∧ Below (w.alloc (sftB A F c fc s)).heap.size (w.alloc (sftB A F c fc s)) w' from Calls.mono HO.out fun e w' ⟨a, k, he, hsl, hb⟩ => ⟨a, k, by rw [he, hE], hsl, hb⟩)
 have hok := ordE_ok s
 rw [← hle] at hok
 obtain ⟨l, hlE⟩ : ∃ l, l = (plndE s).1 := ⟨_, rfl⟩
 rw [← hlE] at HO2 HOk hok hF
 have HLk := Lib.hid hok.1
 have hll : l.length ≤ 40 := Nat.le_trans hok.2 hn40
 have HPl := Lib.hid (fun k (hk : k ≤ l.length) => runP_len hok.1 k hk)
 have HSz := Lib.hid (ordF_sorted hF)
 have HMl := Lib.hid (movedL_len s)
 have HFa := Lib.hid (frontM_all s)
 obtain ⟨pb, hpb⟩ : ∃ pb, pb = w.heap.size := ⟨_, rfl⟩
 clear hr hE hs HO hlE hle hsz hok hF hE0
 go_enter Tryz.func8, Tryz.ntmps8
 go_upto_region 4 with ((go_at_call 25; refine HO2.out.mono ?_; rintro e w1 ⟨a, kc, rfl, hsl, hb1⟩))
 refine abs_world (Q := fun W => Code.wp _ _ _ _ W) (F := fun W => SfBx w.heap.size A F c fc s W ∧ SlI W W.heap.size a l ∧ Below w.heap.size w W) _ ⟨HX0.out.1.to hb1, hsl, HX0.out.2.trans (hb1.mono HX0.out.2.size)⟩ ?_
 clear HX0 c0 c1 hb1 hsl HO2
 rintro W1 ⟨hx, hsl, hb1⟩
 rw [← hpb] at hx ⊢
 have HXs : Hid (∀ W, Below W1.heap.size W1 W → SfBx pb A F c fc s W ∧ SlI W W.heap.size a l ∧ Below w.heap.size w W) := fun W hb => ⟨hx.to hb, (hsl.below hb).more hb.size, hb1.trans (hb.mono hb1.size)⟩
 have hba := al_t W1 (.cells #[.slice none 0 0] 29)
 obtain ⟨ob, hob⟩ : ∃ ob, ob = W1.heap.size := ⟨_, rfl⟩
 have HOb : Hid (Owns (W1.alloc (.cells #[.slice none 0 0] 29)) W1.heap.size [bxO 29 ob (.slice none 0 0), pxO (.slice none 0 0) []] ∧ Below W1.heap.size W1 (W1.alloc (.cells #[.slice none 0 0] 29))) := by
  rw [hob]
  exact ⟨((Owns.nil.none 63 7).add hba (Nat.le_refl _) (bxO_new W1 _ _)), hba⟩
 clear hx hsl hb1 hpb hba
 go_upto_region 5 with fail
 rw [← hob]
 refine abs_world (Q := fun W => Code.wp _ _ _ _ W) (F := fun W => Owns W W1.heap.size [bxO 29 ob (.slice none 0 0), pxO (.slice none 0 0) []] ∧ Below W1.heap.size W1 W) _ HOb.out ?_
 clear HOb hob
 rintro W2 ⟨h2, hb2⟩
 have hal := al_t W2 (.cells #[.slice a l.length kc] 22)
 have HV := Lib.hid (values_any a l.length kc W2)
 have HSo := Lib.hid (sorted_any W2.heap.size a kc l (by omega) (W2.alloc (.cells #[.slice a l.length kc] 22)) (by simp) (cell_new rfl rfl rfl) (((HXs.out W2 hb2).2.1.below hal).more hal.size))
 have HW2 : Hid (Owns (W2.alloc (.cells #[.slice a l.length kc] 22)) W1.heap.size [bxO 29 ob (.slice none 0 0), pxO (.slice none 0 0) []] ∧ Below W1.heap.size W1 (W2.alloc (.cells #[.slice a l.length kc] 22))) := ⟨h2.to hal, hb2.trans (hal.mono hb2.size)⟩
 obtain ⟨m, hm⟩ : ∃ m, m = movedL s := ⟨_, rfl⟩
 obtain ⟨ms, hms⟩ : ∃ ms, ms = m.map fun k : Nat => (k : Int) := ⟨_, rfl⟩
 have HMs := Lib.hid hms
 have HMz : Hid (sortZ l = ms) := by show _ = _; rw [HSz.out, hms, hm]
 have HFm : Hid (frontM m m.length = frontP s s.n) := by show _ = _; rw [hm]; exact HFa.out
 have hmn : ms.length ≤ 40 := by rw [hms, List.length_map, hm]; have := HMl.out; have e : s.n = s.to_.length := rfl; omega
 have HLe : Hid (ms.length = m.length) := by show _ = _; rw [hms, List.length_map]
 clear h2 hb2 hal hm hms HSz HMl HFa
 go_wp2_with fail
 refine HV.out.mono ?_
 rintro e w3 ⟨rfl, rfl⟩
 go_wp2_with fail
 refine HSo.out.mono ?_
 rintro e w4 ⟨vs, rfl, hown, hb4⟩
 rw [HMz.out] at hown
 have ho4 : Owns w4 W1.heap.size (pxJ vs ms :: [bxO 29 ob (.slice none 0 0), pxO (.slice none 0 0) []]) := HW2.out.1.add hb4 HW2.out.2.size hown
 obtain ⟨av, cv, rfl⟩ := pxJ_form ho4
 have hp4 : PlS W1.heap.size ob (.slice none 0 0) (.slice av ms.length cv) (frontM m 0) ms W1 w4 := ⟨ho4.perm ((List.Perm.swap _ _ _).trans (List.Perm.cons _ (List.Perm.swap _ _ _))), HW2.out.2.trans (hb4.mono HW2.out.2.size)⟩
 have HP4 := Lib.hid hp4
 clear hp4 ho4 hown hb4 HSo HV HW2 HMz
 go_wp2
 go_loopw [25] (fun s25 wr => ∃ k : Nat, k ≤ ms.length ∧ s25 = .int .i64 (k : Int) ∧ Hid (∃ v, PlS W1.heap.size ob v (.slice av ms.length cv) (frontM m k) ms W1 wr)) (fun s25 _ => ms.length - (intOf s25).toNat)
 case atStart => exact ⟨0, Nat.zero_le _, rfl, _, HP4.out⟩
 case round =>
  obtain ⟨k, hk, rfl, HP⟩ := hrel
  clear HP4
  obtain ⟨W, hW⟩ : ∃ x : World, x = wr := ⟨_, rfl⟩
  rw [← hW] at HP ⊢
  clear hW
  obtain ⟨v, hP⟩ := HP.out
  clear HP
  obtain ⟨a6, c6, rfl⟩ := pxO_form hP.own.tail
  obtain ⟨o0, o1⟩ := bxO_at hP.own.head
  have hfl := frontM_len m k
  by_cases hlt : k < ms.length
  case pos =>
   obtain ⟨a2, c2, e2, hsl⟩ := pxJ_read (vs := .slice av ms.length cv) (l := ms) hP.own (by simp)
   cases e2
   obtain ⟨b, off, x, hA, -, hx, hcx⟩ := hsl.at_ hlt
   obtain ⟨i, hi, hmi⟩ : ∃ i : Nat, x = (i : Int) ∧ m[k]? = some i := by
    rw [HMs.out, List.getElem?_map] at hx
    cases hmk : m[k]? with
    | none => rw [hmk] at hx; cases hx
    | some i => rw [hmk] at hx; exact ⟨i, by simpa using hx.symm, rfl⟩
   subst hi
   have HNx := Lib.hid (frontM_next hmi)
   obtain ⟨O, hO⟩ : ∃ O, O = frontM m k := ⟨_, rfl⟩
   rw [← hO] at hP hfl HNx o0
   obtain ⟨A9, k9, v9, hr9, q0, q1, ho9, hb9⟩ := plm_push hP.own hP.lo.size (by omega) (xferF i)
   have hr : (Builtin.append_ #[29, 29] 29 #[.slice a6 O.length c6, .slice (some ⟨W.heap.size, 0, none⟩) 1 1]).run Tryz.prog (W.alloc (.cells #[.int .u8 7, .bool false, .int .u8 0, .int .i64 (i : Int), .int .i64 (i : Int), .int .i64 0, .int .i64 0] 63)) = .ok (.slice A9 (O.length + 1) k9) v9 := hr9
   have HP9 : Hid (PlS W1.heap.size ob (.slice A9 (O.length + 1) k9) (.slice av ms.length cv) (frontM m (k + 1)) ms W1 (v9.setCell ⟨ob, 0, none⟩ (.slice A9 (O.length + 1) k9))) := by
    show PlS _ _ _ _ _ _ _ _
    rw [HNx.out]; exact ⟨ho9, hP.lo.trans hb9⟩
   subst hA
   clear hP hsl hx hmi hr9 ho9 hb9 HNx hO
   go_wp2_with (at_builtin; refine wpList_append_run _ rfl _ _ _ _ rfl _ _ (by rfl) (by rfl) hr ?_)
   go_roundw
   case rel => exact ⟨k + 1, by omega, by go_num, _, HP9.out⟩
   case measure => simp [intOf]; omega
  case neg =>
   obtain rfl : k = ms.length := by omega
   have hba := al_t W (.cells #[.int .i64 0] 3)
   obtain ⟨rb, hrb⟩ : ∃ rb, rb = W.heap.size := ⟨_, rfl⟩
   have HO0 : Hid (Owns (W.alloc (.cells #[.int .i64 0] 3)) W1.heap.size (PlO rb ob (runP s l 0).1 (.slice a6 (frontM m ms.length).length c6) (.slice av ms.length cv) (runP s l 0).2 ms) ∧ Below W1.heap.size W1 (W.alloc (.cells #[.int .i64 0] 3))) := by
    have e : (runP s l 0).2 = frontM m ms.length := by rw [runP_zero, HLe.out, HFm.out]
    rw [e, hrb]
    exact ⟨hP.own.add hba hP.lo.size (bxO_new W _ _), hP.lo.trans (hba.mono hP.lo.size)⟩
   obtain ⟨v0, hv0⟩ : ∃ v0, v0 = Value.slice a6 (frontM m ms.length).length c6 := ⟨_, rfl⟩
   rw [← hv0] at HO0
   clear hP hba o0 o1 hv0 hfl hlt hk
   go_upto_region 11 with fail
   rw [← hrb]
   refine abs_world (Q := fun W => Code.wp _ _ _ _ W) (F := fun W => Owns W W1.heap.size (PlO rb ob (runP s l 0).1 v0 (.slice av ms.length cv) (runP s l 0).2 ms) ∧ Below W1.heap.size W1 W) _ HO0.out ?_
   clear HO0 hrb
   intro W5 h5
   have H5 := Lib.hid h5
   clear h5
   go_wp2
   go_loopw [39] (fun s39 wr => ∃ k : Nat, k ≤ l.length ∧ s39 = .int .i64 (k : Int) ∧ Hid ((∃ v, Owns wr W1.heap.size (PlO rb ob (runP s l k).1 v (.slice av ms.length cv) (runP s l k).2 ms)) ∧ Below W1.heap.size W1 wr)) (fun s39 _ => l.length - (intOf s39).toNat)
   case atStart => exact ⟨0, Nat.zero_le _, rfl, ⟨_, H5.out.1⟩, H5.out.2⟩
   case round =>
    obtain ⟨k, hk, rfl, HP⟩ := hrel
    clear H5
    obtain ⟨W, hW⟩ : ∃ x : World, x = wr := ⟨_, rfl⟩
    rw [← hW] at HP ⊢
    clear hW
    have hpl := HPl.out k hk
    have hpl2 : (runP s l k).2.length ≤ 200 := by have e : s.n = s.to_.length := rfl; omega
    obtain ⟨⟨v, hown⟩, hlo⟩ := HP.out
    clear HP hpl
    by_cases hlt : k < l.length
    case pos =>
     obtain ⟨hxW, hslW, -⟩ := HXs.out W hlo
     obtain ⟨b, off, x, hA, -, hx, hcx⟩ := hslW.at_ hlt
     obtain ⟨i, hxi, hil⟩ := HLk.out x (List.mem_of_getElem? hx)
     subst hxi
     have hil' : i < s.to_.length := hil
     have HNx := Lib.hid (runP_next (s := s) hx)
     obtain ⟨b2, off2, hA2, hcl⟩ := hxW.to_at hil
     have c0 := hxW.c0
     obtain ⟨z0, z1, -⟩ := HS.out.to_ i hil
     have HF : Hid (offN s i = s.to_.getD i 0 - (i : Int)) := rfl
     obtain ⟨z, hz⟩ : ∃ z, z = s.to_.getD i 0 := ⟨_, rfl⟩
     rw [← hz] at hcl z0 z1 HF
     obtain ⟨now, hnow⟩ : ∃ now, now = (runP s l k).1 := ⟨_, rfl⟩
     obtain ⟨O, hO⟩ : ∃ O, O = (runP s l k).2 := ⟨_, rfl⟩
     rw [← hnow, ← hO] at hown
     rw [← hO] at hpl2
     have HTn := Lib.hid (pturn_any W1.heap.size rb ob now (z - (i : Int)) v (.slice av ms.length cv) O ms W hlo.size (by omega) hown)
     obtain ⟨O2, hO2⟩ : ∃ O2, O2 = O ++ turnI now (z - (i : Int)) := ⟨_, rfl⟩
     have hO2l : O2.length ≤ 201 := by rw [hO2, List.length_append]; have := turnI_len now (z - (i : Int)); omega
     rw [← hO2] at HTn
     have HN2 : Hid (runP s l (k + 1) = (z - (i : Int), O2 ++ [xferB i z])) := by
      show _ = _
      rw [HNx.out, HF.out, ← hz, hO2, hO, hnow, List.append_assoc]
     have HLo := Lib.hid hlo
     have HZ : Hid (z = s.to_.getD i 0) := hz
     subst hA hA2
     clear hown hxW hslW hx HNx hz hnow hO hO2 HF hlo
     go_wp2_with fail
     refine HTn.out.mono ?_
     rintro e w6 ⟨rfl, ⟨v6, ho6⟩, hb6⟩
     go_upto_region 16 with fail
     have hlo6 := HLo.out.trans hb6
     obtain ⟨hx6, -, -⟩ := HXs.out w6 hlo6
     obtain ⟨b3, off3, hA3, hcl3⟩ := hx6.to_at hil
     cases hA3
     have c06 := hx6.c0
     have hcz : w6.cell? ⟨b2, off2 + i, none⟩ = some (.int .i64 z) := by rw [HZ.out]; exact hcl3
     unfold PlO at ho6
     obtain ⟨a8, c8, rfl⟩ := pxO_form ho6.tail.tail
     obtain ⟨p0, p1⟩ := bxO_at ho6.tail.head
     have p0a := cell_al p0 (.cells #[.int .u8 7, .bool false, .int .u8 1, .int .i64 (i : Int), .int .i64 z, .int .i64 0, .int .i64 0] 63)
     have hbd : Below w6.heap.size w6 w6.drew := Below.drew (Below.refl _ _)
     have hop : Owns w6.drew W1.heap.size (bxO 29 ob (.slice a8 O2.length c8) :: pxO (.slice a8 O2.length c8) O2 :: bxO 3 rb (.int .i64 (z - (i : Int))) :: [pxJ (.slice av ms.length cv) ms]) := (ho6.to hbd).perm ((List.Perm.swap _ _ _).trans (List.Perm.cons _ (List.Perm.swap _ _ _)))
     obtain ⟨A9, k9, v9, hr9, q0, q1, ho9, hb9⟩ := plm_push hop hlo6.size (by omega) (xferB i z)
     have hr : (Builtin.append_ #[29, 29] 29 #[.slice a8 O2.length c8, .slice (some ⟨w6.heap.size, 0, none⟩) 1 1]).run Tryz.prog ((w6.alloc (.cells #[.int .u8 7, .bool false, .int .u8 1, .int .i64 (i : Int), .int .i64 z, .int .i64 0, .int .i64 0] 63)).drew) = .ok (.slice A9 (O2.length + 1) k9) v9 := hr9
     have HP9 : Hid ((∃ v, Owns (v9.setCell ⟨ob, 0, none⟩ (.slice A9 (O2.length + 1) k9)) W1.heap.size (PlO rb ob (runP s l (k + 1)).1 v (.slice av ms.length cv) (runP s l (k + 1)).2 ms)) ∧ Below W1.heap.size W1 (v9.setCell ⟨ob, 0, none⟩ (.slice A9 (O2.length + 1) k9))) := by
      show _ ∧ _
      rw [HN2.out]
      exact ⟨⟨_, ho9.perm ((List.Perm.cons _ (List.Perm.swap _ _ _)).trans (List.Perm.swap _ _ _))⟩, hlo6.trans ((hbd.mono hlo6.size).trans hb9)⟩
     clear hb6 hx6 hcl3 ho6 hop hr9 ho9 hb9 hbd hlo6 HN2 c0 hcx hcl
     go_region_law (refine step_append_run (by rfl) _ _ _ _ (by rfl) _ _ (by rfl) (by rfl) hr ?_)
     all_goals
      go_wp2
      go_roundw
      case rel => exact ⟨k + 1, by omega, by go_num, HP9.out⟩
      case measure => simp [intOf]; omega
    case neg =>
     obtain rfl : k = l.length := by omega
     obtain ⟨now, hnow⟩ : ∃ now, now = (runP s l l.length).1 := ⟨_, rfl⟩
     obtain ⟨O, hO⟩ : ∃ O, O = (runP s l l.length).2 := ⟨_, rfl⟩
     rw [← hnow, ← hO] at hown
     rw [← hO] at hpl2
     have HEnd : Hid (r = (O ++ turnI now 0, 0)) := by show _ = _; rw [HOk.out, hO, hnow]; rfl
     have HTn := Lib.hid (pturn_any W1.heap.size rb ob now 0 v (.slice av ms.length cv) O ms W hlo.size (by omega) hown)
     obtain ⟨O2, hO2⟩ : ∃ O2, O2 = O ++ turnI now 0 := ⟨_, rfl⟩
     rw [← hO2] at HTn HEnd
     have HLo := Lib.hid hlo
     clear hown hlo hnow hO hO2 hpl2 hlt hk
     go_wp2_with fail
     refine HTn.out.mono ?_
     rintro e w6 ⟨rfl, ⟨v6, ho6⟩, hb6⟩
     unfold PlO at ho6
     obtain ⟨a8, c8, rfl⟩ := pxO_form ho6.tail.tail
     obtain ⟨p0, p1⟩ := bxO_at ho6.tail.head
     have HSl := Lib.hid (pxO_sl ho6.tail.tail)
     have HB6 := Lib.hid (HXs.out w6 (HLo.out.trans hb6)).2.2
     clear ho6 hb6
     go_wp2
     go_ret2
     exact IPost.some_ HEnd.out rfl HSl.out HB6.out
def alC (k : Int) : List Stc := [⟨k, false, 2, 0⟩, ⟨2, false, 0, 0⟩]
theorem al_of (k : Int) (f : Int × Int) (h1 : allE (alC k) = 0) (h2 : (alC k).any kindB = false) (h3 : sumU (alC k) = 2) (h4 : runO (alC k) 2 = ⟨2, [0, 0], [f]⟩) : ofE (alC k) = (⟨[0, 0], [f]⟩, 0) := by
 have e : (alC k).length = 2 := rfl
 have hs : sortP [f] = [f] := by unfold sortP; simp
 have hf : farB [0, 0] = false := by decide
 unfold ofE
 rw [e, h4, if_neg (by rw [h1]; simp), if_neg (by rw [h2]; simp), if_neg (by rw [h3]; omega), hf, hs]
 rfl
theorem al_of3 : ofE (alC 3) = (⟨[0, 0], [(0, 1)]⟩, 0) := al_of 3 (0, 1) (by kernel_rfl) (by kernel_rfl) (by kernel_rfl) (by kernel_rfl)
theorem al_of4 : ofE (alC 4) = (⟨[0, 0], [(1, 0)]⟩, 0) := al_of 4 (1, 0) (by kernel_rfl) (by kernel_rfl) (by kernel_rfl) (by kernel_rfl)
theorem al_plan : plE ⟨[0, 0], [(0, 1)]⟩ = ([xferF 1, rackI (-1), xferB 1 0, rackI 0], 0) := by kernel_rfl
theorem al_ord : ordE ⟨[0, 0], [(1, 0)]⟩ = ([1, 0], 0) := by kernel_rfl
end Go.Proofs.YtflpikickbellaaGreat
namespace Go.Proofs.YtflpikickbellaaGreat
open Go.RowKit Go.Shelf
set_option maxRecDepth 100000
set_option maxHeartbeats 1000000 in
theorem sameInstrs_any (A A' : Option Addr) (c c' : Nat) (l : List Ins) (w : World) (h : SlX w w.heap.size A l) (h' : SlX w w.heap.size A' l) (hn : l.length ≤ 4611686018427387904) :
 Calls Tryz.prog 23 #[.slice A l.length c, .slice A' l.length c'] w fun e w' => e = .returned (.bool true) ∧ Below w.heap.size w w' := by
 have hne : (((l.length : Nat) : Int) == ((l.length : Nat) : Int)) = true := by simp
 go_enter Tryz.func23, Tryz.ntmps23
 go_wp2
 go_loopw [5] (fun i wr => ∃ k : Nat, k ≤ l.length ∧ i = .int .i64 k ∧ Below w.heap.size w wr) (fun i _ => l.length - (intOf i).toNat)
 case atStart => exact ⟨0, Nat.zero_le _, rfl, Below.refl _ _⟩
 case round =>
  obtain ⟨k, hk, rfl, hbw⟩ := hrel
  by_cases hlt : k < l.length
  · obtain ⟨b, off, x, rfl, hB, hz, hc⟩ := h.at_ hlt
    obtain ⟨b', off', x', rfl, hB', hz', hc'⟩ := h'.at_ hlt
    rw [hz] at hz'
    obtain rfl : x = x' := by simpa using hz'
    obtain ⟨c0, c1, c2, c3, c4, c5, c6⟩ := hc.below hbw hB
    obtain ⟨d0, d1, d2, d3, d4, d5, d6⟩ := hc'.below hbw hB'
    have hneq : ∀ W : World, (binOp .neq 63 (.agg #[.int .u8 x.op, .bool x.right, .int .u8 x.bed, .int .i64 x.at_, .int .i64 x.to_, .int .i64 x.car, .int .i64 x.rack]) (.agg #[.int .u8 x.op, .bool x.right, .int .u8 x.bed, .int .i64 x.at_, .int .i64 x.to_, .int .i64 x.car, .int .i64 x.rack])).run Tryz.prog W = .ok (.bool false) W := fun W => by
     rw [run_neq_ins]; unfold insNe' insNe; simp
    clear hc hc' h h' hz hz'
    go_wp2
    go_quiet (fail)
    go_wp2
    go_roundw
    case rel => exact ⟨k + 1, by omega, by go_num, below_drewT hbw _⟩
    case measure => simp [intOf]; omega
  · clear h h'
    go_wp2
    go_ret
    exact ⟨rfl, hbw⟩
end Go.Proofs.YtflpikickbellaaGreat
namespace Go.Proofs.YtflpikickbellaaGreat
open Go.RowKit Go.Shelf Go.Sort
set_option maxRecDepth 100000
theorem neq_pr (W : World) (a b : Int) : (binOp .neq 48 (.agg #[.int .i64 a, .int .i64 b]) (.agg #[.int .i64 a, .int .i64 b])).run Tryz.prog W = .ok (.bool false) W := by
 obtain ⟨i1, hi', hz0', hz1', hz2'⟩ := info_parts info_int'
 rw [run_neq_struct, show (10000 : Nat) = 9999 + 1 from rfl, run_equalIn_array W 9999 _ _ Tryz.underlying48 hi', show Tryz.prog.cellsOf 3 = 1 by kernel_rfl]
 simp [Op.eqItems, List.range, List.range.loop, part, go_sem]
set_option maxHeartbeats 1000000 in
theorem samePr_any (A A' : Option Addr) (c c' : Nat) (l : List (Int × Int)) (w : World) (h : SlPr w w.heap.size A l) (h' : SlPr w w.heap.size A' l) (hn : l.length ≤ 4611686018427387904) :
 Calls Tryz.prog 22 #[.slice A l.length c, .slice A' l.length c'] w fun e w' => e = .returned (.bool true) ∧ ∃ m, w' = w.drewN m := by
 have hne : (((l.length : Nat) : Int) == ((l.length : Nat) : Int)) = true := by simp
 go_enter Tryz.func22, Tryz.ntmps22
 go_wp2
 go_loopw [5] (fun i wr => ∃ k : Nat, k ≤ l.length ∧ i = .int .i64 k ∧ Hid (∃ m, wr = w.drewN m)) (fun i _ => l.length - (intOf i).toNat)
 case atStart => exact ⟨0, Nat.zero_le _, rfl, 0, rfl⟩
 case round =>
  obtain ⟨k, hk, rfl, HM⟩ := hrel
  have hbw : Below w.heap.size w wr := by obtain ⟨m, rfl⟩ := HM.out; exact below_drewT (Below.refl _ _) m
  by_cases hlt : k < l.length
  · obtain ⟨b, off, z, rfl, hB, hz, q0, q1⟩ := h.at_ hlt
    obtain ⟨b', off', z', rfl, hB', hz', r0, r1⟩ := h'.at_ hlt
    rw [hz] at hz'
    obtain rfl : z = z' := by simpa using hz'
    have h1 := (bcell hbw hB _).trans q0
    have h2 := (bcell hbw hB _).trans q1
    have h3 := (bcell hbw hB' _).trans r0
    have h4 := (bcell hbw hB' _).trans r1
    clear q0 q1 r0 r1 h h' hz hz' hbw
    obtain ⟨z1, z2⟩ := z
    have hN := fun W => neq_pr W z1 z2
    go_wp2
    go_quiet (fail)
    go_wp2
    go_roundw
    case rel => exact ⟨k + 1, by omega, by go_num, by obtain ⟨m, hm⟩ := HM.out; exact ⟨_, by rw [hm, World.drewN_drewN]⟩⟩
    case measure => simp [intOf]; omega
  · clear h h' hbw
    go_wp2
    go_ret
    exact ⟨rfl, HM.out⟩
theorem sl_lit {W W' : World} {cs : Array Value} {t : TypeId} (l : List Int) (e : W' = W.alloc (.cells cs t)) (hc : cs = (intV l).toArray) : SlI W' W'.heap.size (some ⟨W.heap.size, 0, none⟩) l := fun _ => by
 subst hc
 refine ⟨W.heap.size, 0, rfl, by subst e; simp, fun j z hz => ?_⟩
 rw [Nat.zero_add]
 refine cell_new e rfl ?_
 unfold intV
 simp [hz]
theorem sls_lit {W W' : World} {sz : Nat} {cs : Array Value} {t : TypeId} (zs : List (List Value)) (hz : ∀ z ∈ zs, z.length = sz) (e : W' = W.alloc (.cells cs t)) (hc : cs = zs.flatten.toArray) : SlS sz W' W'.heap.size (some ⟨W.heap.size, 0, none⟩) zs := fun _ => by
 subst hc
 refine ⟨W.heap.size, 0, rfl, by subst e; simp, fun j z hj i v hv => ?_⟩
 rw [Nat.zero_add]
 refine cell_new e rfl ?_
 have := flat_at hz hj hv
 simpa using this
set_option maxHeartbeats 2000000 in
theorem cells32_any (k : Int) (w : World) : Calls Tryz.prog 20 #[.int .u8 k] w fun e w' => ∃ A, e = .returned (.slice A 2 2) ∧ SlT w' w'.heap.size A (alC k) ∧ Below w.heap.size w w' := by
 have HB : Hid (Below w.heap.size w (w.alloc (.cells ((alC k).map Stc.cells).flatten.toArray 96))) := al_t _ _
 have HS : Hid (SlT (w.alloc (.cells ((alC k).map Stc.cells).flatten.toArray 96)) (w.alloc (.cells ((alC k).map Stc.cells).flatten.toArray 96)).heap.size (some ⟨w.heap.size, 0, none⟩) (alC k)) := sls_lit _ (by intro z hz; simp [alC, Stc.cells] at hz; rcases hz with rfl | rfl <;> rfl) rfl rfl
 go_enter Tryz.func20, Tryz.ntmps20
 go_wp2
 go_ret
 exact ⟨_, rfl, HS.out, HB.out⟩
abbrev alS3 : Sft := ⟨[0, 0], [(0, 1)]⟩
abbrev alS4 : Sft := ⟨[0, 0], [(1, 0)]⟩
abbrev alI : List Ins := [xferF 1, rackI (-1), xferB 1 0, rackI 0]
theorem al_wf (k : Int) (h : 0 ≤ k) (h2 : k ≤ 255) : ∀ s ∈ alC k, s.wf := by
 intro s hs
 simp [alC] at hs
 rcases hs with rfl | rfl
 · exact ⟨h, h2⟩
 · unfold Stc.wf; decide
structure Al (w : World) (pb : Nat) (A F : Option Addr) (c fc : Nat) (s : Sft) (W : World) : Prop where
 lo : Below w.heap.size w W
 bx : SfBx pb A F c fc s W
theorem Al.to {w W W' : World} {pb : Nat} {A F : Option Addr} {c fc : Nat} {s : Sft} (h : Al w pb A F c fc s W) (hb : Below W.heap.size W W') : Al w pb A F c fc s W' := ⟨h.lo.trans (hb.mono h.lo.size), h.bx.to hb⟩
theorem al_ofc (k : Int) (h : 0 ≤ k) (h2 : k ≤ 255) (s : Sft) (h3 : s.to_.length = 2) (h4 : s.first.length = 1) (ho : ofE (alC k) = (s, 0)) (A : Option Addr) (W : World) (hs : SlT W W.heap.size A (alC k)) :
 Calls Tryz.prog 17 #[.slice A 2 2] W fun e w' => ∃ At ct Af cf, e = .returned (.tuple #[.agg #[.slice At 2 ct, .slice Af 1 cf], .int .i64 0]) ∧ SfAt At Af s w' ∧ Below W.heap.size W w' := by
 have hc := pof_any A 2 (alC k) (al_wf k h h2) W hs
 rw [ho] at hc
 refine hc.mono fun e w' hp => ?_
 obtain ⟨At, ct, Af, cf, rfl, p1, p2, p3⟩ := hp
 refine ⟨At, ct, Af, cf, ?_, ⟨p1, p2⟩, p3⟩
 show Ending.returned (.tuple #[.agg #[.slice At s.to_.length ct, .slice Af s.first.length cf], .int .i64 0]) = _
 rw [h3, h4]
set_option maxHeartbeats 16000000 in
theorem alive32_any (w : World) : Calls Tryz.prog 5 #[] w fun e w' => e = .returned (.bool true) ∧ Below w.heap.size w w' := by
 have HC := Lib.hid (fun k W => cells32_any k W)
 have HO3 := Lib.hid (al_ofc 3 (by decide) (by decide) alS3 rfl rfl al_of3)
 have HO4 := Lib.hid (al_ofc 4 (by decide) (by decide) alS4 rfl rfl al_of4)
 have HPl : Hid (∀ A F c fc W, SfAt A F alS3 W → Calls Tryz.prog 8 #[.agg #[.slice A 2 c, .slice F 1 fc]] W fun e w' => ∃ a k, e = .returned (.tuple #[.slice a 4 k, .int .i64 0]) ∧ SlX w' w'.heap.size a alI ∧ Below W.heap.size W w') := fun A F c fc W h => by
  have := pplan_any A F c fc alS3 (by decide) (by decide) W h
  rw [al_plan] at this
  exact this
 have HOr : Hid (∀ A F c fc W, SfAt A F alS4 W → Calls Tryz.prog 21 #[.agg #[.slice A 2 c, .slice F 1 fc]] W fun e w' => ∃ a k, e = .returned (.tuple #[.slice a 2 k, .int .i64 0]) ∧ SlI w' w'.heap.size a [1, 0] ∧ Below W.heap.size W w') := fun A F c fc W h => by
  have := porder_any A F c fc alS4 (by decide) (by decide) W h
  rw [al_ord] at this
  exact this
 go_enter Tryz.func5, Tryz.ntmps5
 go_upto_region 2 with (first
  | (go_at_call 20; refine (HC.out 3 _).mono ?_; rintro e w1 ⟨C1, rfl, hs1, hb1⟩)
  | (go_at_call 17; refine (HO3.out C1 _ hs1).mono ?_; rintro e w2 ⟨A, c, F, fc, rfl, ha2, hb2⟩))
 have hb12 := hb1.trans (hb2.mono hb1.size)
 have HAl : Hid (Al w w2.heap.size A F c fc alS3 (w2.alloc (sftB A F c fc alS3))) := ⟨hb12.trans ((al_t _ _).mono hb12.size), SfBx.new c fc ha2⟩
 refine abs_world (Q := fun W => Code.wp _ _ _ _ W) (F := Al w w2.heap.size A F c fc alS3) _ HAl.out ?_
 obtain ⟨pb, hpb⟩ : ∃ pb, pb = w2.heap.size := ⟨_, rfl⟩
 rw [← hpb]
 clear HAl hs1 ha2 hb1 hb2 hb12 hpb
 intro W2 hA2
 obtain ⟨y0, y1⟩ : W2.cell? ⟨pb, 0, none⟩ = some (.slice A 2 c) ∧ W2.cell? ⟨pb, 1, none⟩ = some (.slice F 1 fc) := And.intro hA2.bx.c0 hA2.bx.c1
 have HA2 := Lib.hid hA2
 clear hA2
 go_upto_region 3 with ((go_at_call 8; refine (HPl.out A F c fc _ HA2.out.bx.at_).mono ?_; rintro e w3 ⟨Ap, cp, rfl, hp3, hb3⟩))
 refine abs_world (Q := fun W => Code.wp _ _ _ _ W) (F := fun W => Al w pb A F c fc alS3 W ∧ SlX W W.heap.size Ap alI) _ ⟨HA2.out.to hb3, hp3⟩ ?_
 clear HA2 hb3 hp3 y0 y1
 rintro W3 ⟨hA3, hp3⟩
 have HA3 := Lib.hid hA3
 have HP3 := Lib.hid hp3
 clear hA3 hp3
 go_upto_region 4 with (first
  | (go_at_call 20; refine (HC.out 4 _).mono ?_; rintro e w4 ⟨C4, rfl, hs4, hb4⟩)
  | (go_at_call 17; refine (HO4.out C4 _ hs4).mono ?_; rintro e w5 ⟨A', c', F', fc', rfl, ha5, hb5⟩))
 have hb45 := hb4.trans (hb5.mono hb4.size)
 have hb46 := hb45.trans ((al_t w5 (sftB A' F' c' fc' alS4)).mono hb45.size)
 have HX : Hid (Al w pb A F c fc alS3 (w5.alloc (sftB A' F' c' fc' alS4)) ∧ SlX (w5.alloc (sftB A' F' c' fc' alS4)) (w5.alloc (sftB A' F' c' fc' alS4)).heap.size Ap alI ∧ SfBx w5.heap.size A' F' c' fc' alS4 (w5.alloc (sftB A' F' c' fc' alS4))) :=
  ⟨HA3.out.to hb46, (HP3.out.below hb46).more hb46.size, SfBx.new c' fc' ha5⟩
 obtain ⟨qb, hqb⟩ : ∃ qb, qb = w5.heap.size := ⟨_, rfl⟩
 refine abs_world (Q := fun W => Code.wp _ _ _ _ W) (F := fun W => Al w pb A F c fc alS3 W ∧ SlX W W.heap.size Ap alI ∧ SfBx w5.heap.size A' F' c' fc' alS4 W) _ HX.out ?_
 rw [← hqb]
 clear HX hqb hb46 hb45 hb5 hb4 ha5 hs4 HA3 HP3
 rintro W5 ⟨hA5, hp5, hx5⟩
 obtain ⟨y0, y1⟩ : W5.cell? ⟨qb, 0, none⟩ = some (.slice A' 2 c') ∧ W5.cell? ⟨qb, 1, none⟩ = some (.slice F' 1 fc') := And.intro hx5.c0 hx5.c1
 have HA5 := Lib.hid hA5
 have HP5 := Lib.hid hp5
 have HX5 := Lib.hid hx5
 clear hA5 hp5 hx5
 go_upto_region 5 with ((go_at_call 21; refine (HOr.out A' F' c' fc' _ HX5.out.at_).mono ?_; rintro e w6 ⟨Ao, co, rfl, ho6, hb6⟩))
 refine abs_world (Q := fun W => Code.wp _ _ _ _ W) (F := fun W => Al w pb A F c fc alS3 W ∧ SlX W W.heap.size Ap alI ∧ SlI W W.heap.size Ao [1, 0]) _ ⟨HA5.out.to hb6, (HP5.out.below hb6).more hb6.size, ho6⟩ ?_
 clear HA5 HP5 HX5 ho6 hb6 y0 y1
 rintro W6 ⟨hA6, hp6, ho6⟩
 obtain ⟨o, ho⟩ : ∃ o, o = Obj.cells ((alI.map Ins.cells).flatten.toArray) 63 := ⟨_, rfl⟩
 have hbo := al_t W6 o
 have HX : Hid (Al w pb A F c fc alS3 (W6.alloc o) ∧ SlX (W6.alloc o) (W6.alloc o).heap.size Ap alI ∧ SlI (W6.alloc o) (W6.alloc o).heap.size Ao [1, 0] ∧ SlX (W6.alloc o) (W6.alloc o).heap.size (some ⟨W6.heap.size, 0, none⟩) alI) :=
  ⟨hA6.to hbo, (hp6.below hbo).more hbo.size, (ho6.below hbo).more hbo.size, sls_lit _ (by intro z hz; simp at hz; rcases hz with rfl | rfl | rfl | rfl <;> rfl) (by rw [ho]) rfl⟩
 rw [ho] at HX
 clear hA6 hp6 ho6 hbo ho
 go_upto_region 6 with fail
 obtain ⟨lb, hlb⟩ : ∃ lb, lb = W6.heap.size := ⟨_, rfl⟩
 refine abs_world (Q := fun W => Code.wp _ _ _ _ W) (F := fun W => Al w pb A F c fc alS3 W ∧ SlX W W.heap.size Ap alI ∧ SlI W W.heap.size Ao [1, 0] ∧ SlX W W.heap.size (some ⟨W6.heap.size, 0, none⟩) alI) _ HX.out ?_
 rw [← hlb]
 clear HX hlb
 rintro W ⟨hA, hp, ho, hl⟩
 obtain ⟨y0, y1⟩ : W.cell? ⟨pb, 0, none⟩ = some (.slice A 2 c) ∧ W.cell? ⟨pb, 1, none⟩ = some (.slice F 1 fc) := And.intro hA.bx.c0 hA.bx.c1
 have HA := Lib.hid hA
 have HP := Lib.hid hp
 have HO := Lib.hid ho
 have HL := Lib.hid hl
 have HY1 := Lib.hid (fun W' (h : Below W.heap.size W W') => (bcell h (lt_of_cell y1) _).trans y1)
 clear hA hp ho hl
 have sI : ∀ (l : List Int) (A : Option Addr) (c : Nat) (V : World) (t : TypeId), l.length ≤ 4 → Below W.heap.size W V → SlI V V.heap.size A l → Calls Tryz.prog 19 #[.slice A l.length c, .slice (some ⟨V.heap.size, 0, none⟩) l.length l.length] (V.alloc (.cells (intV l).toArray t)) fun e w' => e = .returned (.bool true) ∧ Below W.heap.size W w' := fun l A c V t hl hb h =>
  (sameI_any A (some ⟨V.heap.size, 0, none⟩) c l.length l _ ((h.below (al_t _ _)).more (al_t _ _).size) (sl_lit l rfl rfl) (by omega)).mono fun e w' ⟨h1, m, h2⟩ => ⟨h1, by rw [h2]; exact below_drewT (hb.trans ((al_t _ _).mono hb.size)) _⟩
 have HSI := Lib.hid sI
 clear sI
 go_wp2_with (first
  | (go_at_call_of 19 (Value.slice A 2 c); refine (HSI.out [0, 0] A c _ _ (by decide) (Below.refl _ _) HA.out.bx.at_.tz).mono ?_; rintro e w7 ⟨rfl, hb7⟩; have z1 := HY1.out w7 hb7)
  | (go_at_call 22; refine (samePr_any F _ fc 1 [(0, 1)] _ ((HA.out.bx.at_.fr.below (hb7.trans ((al_t _ _).mono hb7.size))).more (hb7.trans ((al_t _ _).mono hb7.size)).size) (sls_lit _ (by intro z hz; simp at hz; rw [hz]; rfl) rfl rfl) (by decide)).mono ?_; rintro e w8 ⟨rfl, m8, hw8⟩; have hb8 : Below W.heap.size W w8 := (by rw [hw8]; exact below_drewT (hb7.trans ((al_t _ _).mono hb7.size)) _); clear hw8)
  | (go_at_call 23; refine (sameInstrs_any Ap (some ⟨lb, 0, none⟩) cp 4 alI w8 ((HP.out.below hb8).more hb8.size) ((HL.out.below hb8).more hb8.size) (by decide)).mono ?_; rintro e w9 ⟨rfl, hb9⟩; have hb89 := hb8.trans (hb9.mono hb8.size))
  | (go_at_call_of 19 (Value.slice Ao 2 co); refine (HSI.out [1, 0] Ao co w9 _ (by decide) hb89 ((HO.out.below hb89).more hb89.size)).mono ?_; rintro e w10 ⟨rfl, hb10⟩))
 go_ret
 exact ⟨rfl, HA.out.lo.trans (hb10.mono HA.out.lo.size)⟩
end Go.Proofs.YtflpikickbellaaGreat
