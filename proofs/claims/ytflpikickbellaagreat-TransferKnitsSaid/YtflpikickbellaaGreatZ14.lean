/- Layer 32. -/
import Derived.Test.YtflpikickbellaaGreatZ13
namespace Go.Proofs.YtflpikickbellaaGreat
open Go.RowKit Go.Shelf Go.Sort
set_option maxRecDepth 100000
theorem nodup_le : ∀ {L M : List Int}, L.Nodup → (∀ x ∈ L, x ∈ M) → L.length ≤ M.length
 | [], _, _, _ => Nat.zero_le _
 | x :: L, M, hn, hs => by
   have hn' := List.nodup_cons.1 hn
   have hx := hs x List.mem_cons_self
   have h1 := nodup_le (L := L) (M := M.erase x) hn'.2 (fun y hy => (List.mem_erase_of_ne (fun e => hn'.1 (by rw [← e]; exact hy))).2 (hs y (List.mem_cons_of_mem _ hy)))
   rw [List.length_erase_of_mem hx] at h1
   have := List.length_pos_of_mem hx
   rw [List.length_cons]
   omega
theorem has_range {s : Sft} (hs : SftOk s) {come : Nat → Bool} {t : Int} (h : hasN s come t = true) : -8 ≤ t ∧ t ≤ 8 := by
 obtain ⟨i, hi, rfl, -⟩ := hasN_iff.1 h
 exact (hs.to_ i hi).2.2
theorem stopsN_len (s : Sft) (come : Nat → Bool) : (stopsN s come).length ≤ 17 := by
 have := List.length_filter_le (hasN s come) stops17
 rw [stops_len] at this
 exact this
theorem waits_has {s : Sft} {come : Nat → Bool} {t : Int} : waitsN s come t ≠ [] ↔ hasN s come t = true := by
 rw [← Bool.not_eq_false, ← waits_none (s := s) (come := come) (t := t)]
theorem keys_stopsN {s : Sft} (hs : SftOk s) {come : Nat → Bool} {G : Int → Option Value} (hd : ∀ t, (G t).isSome = hasN s come t) {t : Int} : t ∈ stopsN s come ↔ (G t).isSome = true := by
 rw [hd]
 unfold stopsN
 rw [List.mem_filter, mem_stops]
 exact ⟨fun h => h.2, fun h => ⟨has_range hs h, h⟩⟩
theorem stops_nodup (s : Sft) (come : Nat → Bool) : (stopsN s come).Nodup := by
 unfold stopsN stops17
 refine List.Pairwise.filter _ ?_
 rw [List.pairwise_map]
 exact List.pairwise_lt_range.imp fun h e => by omega
section
variable {W0 W W' : World} {pb wb mb : Nat} {A F : Option Addr} {c fc : Nat} {s : Sft} {come : Nat → Bool} {out : List Int} {v : Value} {bx : List (Nat × Value)} {n : Nat} {G : Int → Option Value}
theorem pleast1 (hs : SftOk s) (hf : s.first.length ≤ 4611686018427387904) (hsb : SfBx pb A F c fc s W0) (h : PoA W0 wb mb A F c fc s come out v bx n G W) (hd : ∀ t, (G t).isSome = hasN s come t) (hb : Below W.heap.size W W') {a : Option Addr} {k : Nat} {xs : List Int} (hx : KyOf G xs) (hsl : SlI W' W'.heap.size a xs) :
 Calls Tryz.prog 46 #[.slice a xs.length k, .func (.func 48) #[] #[.pointer (some ⟨pb, 0, none⟩), .pointer (some ⟨wb, 0, none⟩)]] W' fun e w' => NxPost W' (nextN s come) e w' := by
 have hso : sortZ xs = stopsN s come := stops_sorted hx.1 fun t => by
  rw [hx.2, ← keys_stopsN hs hd]
  unfold stopsN
  rw [List.mem_filter, mem_stops]
  exact ⟨fun h => ⟨h.1.1, h.1.2, h.2⟩, fun h => ⟨⟨h.1, h.2.1⟩, h.2.2⟩⟩
 have hl : xs.length ≤ 17 := by
  have := stopsN_len s come
  rw [← hso, sortZ_len] at this
  exact this
 have := least_any 48 #[.pointer (some ⟨pb, 0, none⟩), .pointer (some ⟨wb, 0, none⟩)] (enters_of Tryz.func48 (by kernel_rfl) rfl) (readyN s come) a k xs W' hsl (by omega) (fun x _ w2 hb2 => by
  have h2 := (h.to hb).to hb2
  exact pready_any A F c fc s mb pb wb hs hf come x w2 (hsb.to h2.lo) (h2.wk hsb.at_) h2.wt)
 rw [hso, next_find] at this
 exact this
theorem pleast2 (hs : SftOk s) (hf : s.first.length ≤ 4611686018427387904) (hsb : SfBx pb A F c fc s W0) (h : PoA W0 wb mb A F c fc s come out v bx n G W) {tb : Nat} {t : Int} (ht : (tb, .int .i64 t) ∈ bx) {a : Option Addr} {k : Nat} (hsl : SlI W W.heap.size a (waitsN s come t)) :
 Calls Tryz.prog 46 #[.slice a (waitsN s come t).length k, .func (.func 53) #[] #[.pointer (some ⟨pb, 0, none⟩), .pointer (some ⟨wb, 0, none⟩), .pointer (some ⟨tb, 0, none⟩)]] W fun e w' => NxPost W ((pickN s come t).map fun i : Nat => (i : Int)) e w' := by
 have hl := waitsN_len s come t
 have hn : s.n ≤ 40 := hs.len
 have := least_any 53 #[.pointer (some ⟨pb, 0, none⟩), .pointer (some ⟨wb, 0, none⟩), .pointer (some ⟨tb, 0, none⟩)] (enters_of Tryz.func53 (by kernel_rfl) rfl) (fun x => freeN s come t x.toNat) a k (waitsN s come t) W hsl (by omega) (fun x hx w2 hb2 => by
  have h2 := h.to hb2
  have hx2 := hx
  unfold waitsN at hx2
  obtain ⟨i, -, rfl⟩ := List.mem_map.1 hx2
  exact pfree_any A F c fc s mb pb wb tb hs hf come t i w2 (hsb.to h2.lo) (h2.wk hsb.at_) (h2.box _ ht).1 h2.wt)
 rw [waits_sorted, pick_find] at this
 exact this
end
def lenV : Value → Nat
 | .slice _ n _ => n
 | _ => 0
theorem wpList_delete_run {P : Program} (w : World) {ops : Array Oper} {rest : List Oper} {o : Oper} {a : Act} {Q : Exit → Act → World → Prop} (hgd : o.guard = none) (d x : Operand) (t t' : TypeId)
 (ho : o.op = .call { callee := .builtin .delete, args := #[d, x], argTypes := #[t, t'] }) (v u : Value) (hd : a.eval d = v) (hx : a.eval x = u) {v' : Value} {w' : World}
 (hr : (Builtin.delete_ #[t, t'] o.type #[v, u]).run P w = .ok v' w') (h : wpList P ops Q rest (a.put o.dst v') w') : wpList P ops Q (o :: rest) a w :=
 wpList_plain hgd fun K hK => by
  unfold Oper.wp
  simp [execOp, ho, resolve, invoke, builtin, hd, hx, hr, Result.andThen]
  exact hK _ _ h
set_option maxHeartbeats 32000000 in
theorem porder_any (A F : Option Addr) (c fc : Nat) (s : Sft) (hl : s.to_.length ≤ 4611686018427387904) (hf : s.first.length ≤ 4611686018427387904) (w : World) (h : SfAt A F s w) :
 Calls Tryz.prog 21 #[sftV A F c fc s] w fun e w' => LPost w (ordE s) e w' := by
 have hb0 := al_t w (sftB A F c fc s)
 have HX0 : Hid (SfBx w.heap.size A F c fc s (w.alloc (sftB A F c fc s)) ∧ Below w.heap.size w (w.alloc (sftB A F c fc s))) := ⟨SfBx.new c fc h, hb0⟩
 have HC1 := Lib.hid (pchk_any A F c fc s hl hf _ HX0.out.1.at_)
 have c0 := HX0.out.1.c0
 have c1 := HX0.out.1.c1
 have hmf : ∀ (fn : Fn) (first cap : Array Value) (w : World), (Instr.makeFunc fn first cap).run Tryz.prog w = .ok (.func fn first cap) w := fun _ _ _ _ => rfl
 obtain ⟨r, hr⟩ : ∃ r, r = ordE s := ⟨_, rfl⟩
 rw [← hr]
 obtain ⟨pb, hpb⟩ : ∃ pb, pb = w.heap.size := ⟨_, rfl⟩
 clear h hb0
 by_cases hE : sftE s = 0
 case neg =>
  have HR : Hid (r = ([], sftE s)) := by show _ = _; rw [hr, ordE_e hE]
  have d0 : (sftE s != 0) = true := by simpa using hE
  obtain ⟨x, hx⟩ : ∃ x, x = sftE s := ⟨_, rfl⟩
  rw [← hx] at HR d0 HC1
  clear hr hE hx hpb hmf
  go_enter Tryz.func21, Tryz.ntmps21
  go_wp2_with fail
  refine HC1.out.mono ?_
  rintro e w1 ⟨rfl, hb1⟩
  have HB := Lib.hid (HX0.out.2.trans (hb1.mono HX0.out.2.size))
  clear hb1
  go_wp2
  go_ret2
  exact LPost.none HR.out HB.out
 case pos =>
 have hs := sftE_ok hE
 have HS := Lib.hid hs
 have hn40 : s.to_.length ≤ 40 := hs.len
 obtain ⟨R, hR⟩ : ∃ R, R = outerN s s.n (fun _ => false) [] := ⟨_, rfl⟩
 have HNo : Hid (R = none → r = ([], 6)) := fun ho => hr.trans (ordE_none hE (by rw [← hR]; exact ho))
 have HSo : Hid (∀ l, R = some l → r = (l, 0)) := fun l ho => hr.trans (ordE_some hE (by rw [← hR]; exact ho))
 have HOut0 : Hid (OutR s R (fun _ => false) []) := by rw [hR]; exact OutR.new s _ _
 rw [hE] at HC1
 clear hr hE hs hR
 go_enter Tryz.func21, Tryz.ntmps21
 go_upto_region 4 with ((go_at_call 44; refine HC1.out.mono ?_; rintro e w1 ⟨rfl, hb1⟩))
 refine abs_world (Q := fun W => Code.wp _ _ _ _ W) (F := fun W => SfBx w.heap.size A F c fc s W ∧ Below w.heap.size w W) _ ⟨HX0.out.1.to hb1, HX0.out.2.trans (hb1.mono HX0.out.2.size)⟩ ?_
 clear HX0 c0 c1 hb1 HC1
 rintro W1 ⟨hx, hb1⟩
 rw [← hpb] at hx ⊢
 have HX1 := Lib.hid (And.intro hx hb1)
 have c0 := hx.c0
 have c1 := hx.c1
 have HBg := Lib.hid (pbegin_any A F c fc s HS.out hf W1 hx.at_)
 clear hx hb1 hpb
 go_wp2_with fail
 refine HBg.out.mono ?_
 rintro e w2 ⟨mb, n0, G0, rfl, hn0, hm0, hd0, hb2⟩
 have HP0 := Lib.hid (PoA.new (A := A) (F := F) (c := c) (fc := fc) hm0 hb2)
 have HD0 : Hid (∀ t, (G0 t).isSome = hasN s (fun _ => false) t) := fun t => by rw [hd0, Bool.eq_iff_iff, decide_eq_true_eq]; exact waits_has
 have HN0 := Lib.hid hn0
 clear hm0 hd0 hb2 hn0 HBg c0 c1
 go_upto_region 5 with fail
 refine abs_world (Q := fun W => Code.wp _ _ _ _ W) (F := fun W => PoA W1 w2.heap.size mb A F c fc s (fun _ => false) [] (.slice none 0 0) [] n0 G0 W) _ HP0.out ?_
 obtain ⟨wb, hwb⟩ : ∃ wb, wb = w2.heap.size := ⟨_, rfl⟩
 rw [← hwb]
 clear HP0 hwb
 intro W2 hP2
 have HP2 := Lib.hid hP2
 have HL0 : Hid (leftN s (fun _ => false) ≤ s.n) := leftN_le s _
 clear hP2
 go_wp2
 go_loopw [6] (fun s6 wr => ∃ (come : Nat → Bool) (out : List Int) (n : Nat) (G : Int → Option Value), Hid (PoA W1 wb mb A F c fc s come out s6 [] n G wr) ∧ Hid (OutR s R come out) ∧ Hid (∀ t, (G t).isSome = hasN s come t) ∧ Hid (n ≤ s.n + out.length ∧ out.length + leftN s come ≤ s.n)) (fun s6 _ => s.n - lenV s6)
 case atStart => exact ⟨_, [], n0, G0, HP2.out, HOut0.out, HD0.out, by have := HN0.out; have := HL0.out; constructor <;> simp only [List.length_nil] <;> omega⟩
 case round =>
  obtain ⟨come, out, n, G, HP, HOR, HD, HLn⟩ := hrel
  clear HP2 HOut0 HD0 HN0 HL0
  obtain ⟨W, hW⟩ : ∃ x : World, x = wr := ⟨_, rfl⟩
  rw [← hW] at HP ⊢
  clear hW
  obtain ⟨a6, c6, rfl, -⟩ := own_slice HP.out.own
  have c2 := HP.out.c2
  have hlen : ∀ ty, (Builtin.len_ #[79] ty #[.map (some mb)]).run Tryz.prog W = .ok (.int .i64 (((stopsN s come).length : Nat) : Int)) W := fun ty => HP.out.mp.mv.len Tryz.underlying79 (stops_nodup s come) (fun k => keys_stopsN HS.out HD.out) ty
  obtain ⟨N, hN⟩ : ∃ N, N = (stopsN s come).length := ⟨_, rfl⟩
  rw [← hN] at hlen
  by_cases hz : stopsN s come = []
  case pos =>
   have HR2 := Lib.hid (HSo.out _ (HOR.out.end_ hz))
   have hN0 : N = 0 := by rw [hN, hz]; rfl
   have HSl := Lib.hid (ownI.slI HP.out.own)
   have HB := Lib.hid (HX1.out.2.trans (HP.out.lo.mono HX1.out.2.size))
   subst hN0
   clear hN hz HOR HLn HP HD
   go_wp2
   go_ret2
   exact LPost.some_ HR2.out HSl.out HB.out
  case neg =>
   have hNp : 0 < N := by rw [hN]; exact List.length_pos_iff.2 hz
   have dN : decide ((0 : Int) < (N : Int)) = true := decide_eq_true (by omega)
   have HZ := Lib.hid hz
   have hba := al_t W (.cells #[.map (some mb)] 79)
   have HCo := Lib.hid (collectKeys_any (HP.out.mp.mv.below hba HP.out.mp.mv.lt) (Bs := W.heap.size) (by simp) (cell_new rfl rfl rfl) (N := 17) (by omega) (fun L hLn hLk => by
    have := nodup_le (M := stopsN s come) hLn (fun x hx => (keys_stopsN HS.out HD.out).2 (hLk x hx))
    have := stopsN_len s come
    omega))
   have HBa := Lib.hid hba
   clear hN hz hba
   go_wp2_with fail
   refine (keys_any mb W).mono ?_
   rintro e w4 ⟨rfl, rfl⟩
   go_wp2_with fail
   refine HCo.out.mono ?_
   rintro e w5 ⟨v5, xs, rfl, hky, ho5, hb5⟩
   obtain ⟨a5, k5, rfl, -⟩ := own_slice ho5
   have hbw5 := HBa.out.trans (hb5.mono HBa.out.size)
   have HL1 := Lib.hid (pleast1 (k := k5) HS.out hf HX1.out.1 HP.out HD.out hbw5 hky (ownI.slI ho5))
   have HP5 := Lib.hid (HP.out.to hbw5)
   clear hky ho5 hb5 hbw5 HCo HBa c2
   cases hnx : nextN s come with
   | none =>
     have HR2 := Lib.hid (HNo.out (HOR.out.none HZ.out hnx))
     rw [hnx] at HL1
     have HL2 : Hid (Calls Tryz.prog 46 #[.slice a5 xs.length k5, .func (.func 48) #[] #[.pointer (some ⟨pb, 0, none⟩), .pointer (some ⟨wb, 0, none⟩)]] w5 fun e w' => e = .returned (.tuple #[.int .i64 0, .bool false]) ∧ Below w5.heap.size w5 w') := HL1.out
     clear HL1 hnx HOR HLn HP HD
     go_wp2_with fail
     refine HL2.out.mono ?_
     rintro e w6 ⟨rfl, hb6⟩
     have HE := Lib.hid (HX1.out.2.trans ((HP5.out.to hb6).lo.mono HX1.out.2.size))
     clear hb6
     go_wp2
     go_ret2
     exact LPost.none HR2.out (HE.out.trans ((al_t _ _).mono HE.out.size))
   | some t =>
     rw [hnx] at HL1
     have HL2 : Hid (Calls Tryz.prog 46 #[.slice a5 xs.length k5, .func (.func 48) #[] #[.pointer (some ⟨pb, 0, none⟩), .pointer (some ⟨wb, 0, none⟩)]] w5 fun e w' => e = .returned (.tuple #[.int .i64 t, .bool true]) ∧ Below w5.heap.size w5 w') := HL1.out
     have HNs := Lib.hid (nextN_some hnx)
     have HGo := Lib.hid (HOR.out.go hnx)
     obtain ⟨Ri, hRi⟩ : ∃ Ri, Ri = innerN s t s.n come out := ⟨_, rfl⟩
     have HIn0 : Hid (InnR s t Ri come out) := by rw [hRi]; exact InnR.new s t come out
     rw [← hRi] at HGo
     have HWf : Hid (wfK t) := wfK_small HNs.out.2.2.1 HNs.out.2.2.2
     clear HL1 hnx HOR HP hRi
     go_wp2_with fail
     refine HL2.out.mono ?_
     rintro e w6 ⟨rfl, hb6⟩
     have HP7 := Lib.hid ((HP5.out.to hb6).boxed (.int .i64 t) 3)
     clear hb6 HL2
     go_upto_region 8 with fail
     refine abs_world (Q := fun W => Code.wp _ _ _ _ W) (F := fun W => PoA W1 wb mb A F c fc s come out (.slice a6 out.length c6) [(w6.heap.size, .int .i64 t)] n G W) _ HP7.out ?_
     obtain ⟨tb, htb⟩ : ∃ tb, tb = w6.heap.size := ⟨_, rfl⟩
     rw [← htb]
     clear HP7 htb HP5
     intro W7 hP7
     have HP7 := Lib.hid hP7
     clear hP7
     go_wp2
     clear hlen dN hNp
     go_loopw [6] (fun s6 wr => ∃ (come2 : Nat → Bool) (out2 : List Int) (n2 : Nat) (G2 : Int → Option Value), Hid (PoA W1 wb mb A F c fc s come2 out2 s6 [(tb, .int .i64 t)] n2 G2 wr) ∧ Hid (InnR s t Ri come2 out2) ∧ Hid (∀ u, u ≠ t → (G2 u).isSome = hasN s come2 u) ∧ Hid (n2 ≤ s.n + out2.length ∧ out2.length + leftN s come2 ≤ s.n) ∧ Hid (out2.length + leftN s come2 = out.length + leftN s come ∧ out.length ≤ out2.length ∧ (out.length < out2.length ∨ hasN s come2 t = true))) (fun s6 _ => s.n - lenV s6)
     case atStart => exact ⟨come, out, n, G, HP7.out, HIn0.out, fun u _ => HD.out u, HLn.out, rfl, Nat.le_refl _, Or.inr HNs.out.1⟩
     case round =>
      obtain ⟨come2, out2, n2, G2, HP, HIn, HD2, HLn2, HSt⟩ := hrel
      clear HP7 HIn0 HD
      obtain ⟨W, hW⟩ : ∃ x : World, x = wr := ⟨_, rfl⟩
      rw [← hW] at HP ⊢
      clear hW
      obtain ⟨a7, c7, rfl, -⟩ := own_slice HP.out.own
      have c2 := HP.out.c2
      have ct := (HP.out.box (tb, .int .i64 t) List.mem_cons_self).1
      have ct : W.cell? ⟨tb, 0, none⟩ = some (.int .i64 t) := ct
      obtain ⟨ar, kr, hv, hsl⟩ := HP.out.mp.read t
      have hlk : (Instr.lookup 79 (.map (some mb)) (.int .i64 t) false).run Tryz.prog W = .ok (.slice ar (waitsN s come2 t).length kr) W := by rw [← hv]; exact HP.out.mp.look HWf.out
      have HV := Lib.hid (And.intro hv hsl)
      obtain ⟨L, hL⟩ : ∃ L, L = (waitsN s come2 t).length := ⟨_, rfl⟩
      have HLe := Lib.hid hL
      rw [← hL] at hlk
      have HWl := Lib.hid (waitsN_len s come2 t)
      cases hh : hasN s come2 t with
      | false =>
        have hw0 := waits_none.2 hh
        have HHf := Lib.hid hh
        have hL0 : L = 0 := by rw [hL, hw0]; rfl
        obtain ⟨w8, hr8, hP8⟩ := HP.out.gone HWf.out hw0 0
        have hdel : ∀ ty, (Builtin.delete_ #[79, 3] ty #[.map (some mb), .int .i64 t]).run Tryz.prog W = .ok (.tuple #[]) w8 := fun ty => hr8
        have HP8 := Lib.hid (hP8.sub (bx' := []) (fun p hp => by cases hp))
        have HSt2 : Hid (leftN s come2 < leftN s come ∧ out.length < out2.length) := by
         obtain ⟨h0, -, h1⟩ := HSt.out
         rcases h1 with h1 | h1
         · exact ⟨by omega, h1⟩
         · rw [hh] at h1; cases h1
        have HOR2 := Lib.hid (HGo.out.2 come2 out2 (HIn.out.end_ hh) HSt2.out.1)
        have HDx : Hid (∀ u, (upd G2 t none u).isSome = hasN s come2 u) := fun u => by
         by_cases hu : u = t
         · subst hu; rw [upd_same, HHf.out]; rfl
         · rw [upd_other _ _ hu]; exact HD2.out u hu
        subst hL0
        clear hw0 hL hh hv hsl hr8 hP8 HLe
        go_wp2_with (refine wpList_delete_run _ rfl _ _ 79 3 rfl _ _ (by rfl) (by rfl) (hdel _) ?_)
        go_roundw
        case rel => exact ⟨_, _, _, ⟨come2, out2, n2, _, HP8.out, HOR2.out, HDx.out, HLn2.out⟩, rfl, rfl, rfl⟩
        case measure => have := HSt2.out.2; have := HLn2.out.2; simp only [lenV]; omega
      | true =>
        have hLp : 0 < L := by
         rw [hL]
         exact List.length_pos_iff.2 (waits_has.2 hh)
        have dL : decide ((0 : Int) < (L : Int)) = true := decide_eq_true (by omega)
        have hlp := left_pos hh
        have hop : out2.length < s.n := by have := HLn2.out.2; omega
        have HLs := Lib.hid (pleast2 (k := kr) HS.out hf HX1.out.1 HP.out (tb := tb) List.mem_cons_self hsl)
        rw [← hL] at HLs
        have HHh := Lib.hid hh
        clear hh hv hsl hL hlp
        cases hpk : pickN s come2 t with
        | none =>
          rw [hpk] at HLs
          have HL3 : Hid (Calls Tryz.prog 46 #[.slice ar L kr, .func (.func 53) #[] #[.pointer (some ⟨pb, 0, none⟩), .pointer (some ⟨wb, 0, none⟩), .pointer (some ⟨tb, 0, none⟩)]] W fun e w' => e = .returned (.tuple #[.int .i64 0, .bool false]) ∧ Below W.heap.size W w') := HLs.out
          have HR2 := Lib.hid (HNo.out (HGo.out.1 (HIn.out.none HHh.out hpk)))
          clear HLs hpk HIn HD2 HSt
          go_wp2_with fail
          refine HL3.out.mono ?_
          rintro e w8 ⟨rfl, hb8⟩
          have HE := Lib.hid (HX1.out.2.trans ((HP.out.to hb8).lo.mono HX1.out.2.size))
          clear hb8 HP HL3
          go_wp2
          go_ret2
          exact LPost.none HR2.out (HE.out.trans ((al_t _ _).mono HE.out.size))
        | some i =>
          rw [hpk] at HLs
          have HL3 : Hid (Calls Tryz.prog 46 #[.slice ar L kr, .func (.func 53) #[] #[.pointer (some ⟨pb, 0, none⟩), .pointer (some ⟨wb, 0, none⟩), .pointer (some ⟨tb, 0, none⟩)]] W fun e w' => e = .returned (.tuple #[.int .i64 (i : Int), .bool true]) ∧ Below W.heap.size W w') := HLs.out
          have HPk := Lib.hid (pickN_some hpk)
          have HIn2 := Lib.hid (HIn.out.go HHh.out hpk)
          have HLn3 : Hid (n2 + 1 ≤ s.n + (out2 ++ [(i : Int)]).length ∧ (out2 ++ [(i : Int)]).length + leftN s (putN come2 i) ≤ s.n) := by
           have h1 := leftN_put HPk.out.1 HPk.out.2.2.1
           have h2 := HLn2.out
           show _ ∧ _
           rw [List.length_append, List.length_singleton]
           omega
          have HSt3 : Hid ((out2 ++ [(i : Int)]).length + leftN s (putN come2 i) = out.length + leftN s come ∧ out.length ≤ (out2 ++ [(i : Int)]).length ∧ (out.length < (out2 ++ [(i : Int)]).length ∨ hasN s (putN come2 i) t = true)) := by
           have h1 := leftN_put HPk.out.1 HPk.out.2.2.1
           obtain ⟨h2, h3, -⟩ := HSt.out
           show _ ∧ _ ∧ _
           rw [List.length_append, List.length_singleton]
           exact ⟨by omega, by omega, Or.inl (by omega)⟩
          have HOf := Lib.hid HPk.out.2.1
          obtain ⟨w8, hrow⟩ : ∃ x : World, x = W := ⟨_, rfl⟩
          have HWe := Lib.hid hrow
          clear HLs hpk HIn HSt hrow
          go_wp2_with fail
          refine HL3.out.mono ?_
          rintro e w9 ⟨rfl, hb9⟩
          have hP9 := HP.out.to hb9
          have HP9 := Lib.hid (hP9.boxed (.int .i64 (i : Int)) 3)
          clear hb9 hP9 HL3 c2 ct hlk
          go_upto_region 12 with fail
          refine abs_world (Q := fun W => Code.wp _ _ _ _ W) (F := fun W => PoA W1 wb mb A F c fc s come2 out2 (.slice a7 out2.length c7) [(w9.heap.size, .int .i64 (i : Int)), (tb, .int .i64 t)] n2 G2 W) _ HP9.out ?_
          obtain ⟨nb, hnb⟩ : ∃ nb, nb = w9.heap.size := ⟨_, rfl⟩
          rw [← hnb]
          clear HP9 hnb HP HWe w8
          intro W10 hP10
          have HP10 := Lib.hid hP10
          have cn := (hP10.box (nb, .int .i64 (i : Int)) List.mem_cons_self).1
          have cn : W10.cell? ⟨nb, 0, none⟩ = some (.int .i64 (i : Int)) := cn
          obtain ⟨A9, k9, v9, hr9, hP11⟩ := hP10.push (by have := HLn2.out.2; have e : s.n = s.to_.length := rfl; omega) (i : Int)
          have HP11 := Lib.hid hP11
          clear hP10 hP11
          go_upto_region 15 with (at_builtin; refine wpList_append_run _ rfl _ _ _ _ rfl _ _ (by rfl) (by rfl) hr9 ?_)
          refine abs_world (Q := fun W => Code.wp _ _ _ _ W) (F := fun W => PoA W1 wb mb A F c fc s come2 (out2 ++ [(i : Int)]) (.slice A9 (out2.length + 1) k9) [(nb, .int .i64 (i : Int)), (tb, .int .i64 t)] n2 G2 W) _ HP11.out ?_
          clear HP11 HP10 hr9 cn
          intro W12 hP12
          obtain ⟨aq, kq, hvq, -⟩ := hP12.mp.read t
          have hsn : s.n ≤ 1000 := by have e : s.n = s.to_.length := rfl; omega
          have hn2k : n2 ≤ 1000 := by have := HLn2.out; have e : s.n = s.to_.length := rfl; omega
          have HSx : Hid (∀ W', Below W12.heap.size W12 W' → W'.cell? ⟨wb, 2, none⟩ = some (.map (some mb)) ∧ W'.cell? ⟨tb, 0, none⟩ = some (.int .i64 t)) := fun W' hb => ⟨(hP12.to hb).c2, ((hP12.to hb).box (tb, .int .i64 t) (by simp)).1⟩
          have HLk : Hid (∀ W', Below W12.heap.size W12 W' → (Instr.lookup 79 (.map (some mb)) (.int .i64 t) false).run Tryz.prog W' = .ok (.slice aq L kq) W') := fun W' hb => by rw [HLe.out, ← hvq]; exact (hP12.to hb).mp.look HWf.out
          have HDl : Hid (∀ W', Below W12.heap.size W12 W' → Calls Tryz.prog 55 #[.slice aq L kq, .func (.func 56) #[] #[.pointer (some ⟨nb, 0, none⟩)]] W' fun e w2 =>
           ∃ A' n' k', e = .returned (.slice A' n' k') ∧ (w2.cell? ⟨wb, 2, none⟩ = some (.map (some mb)) ∧ w2.cell? ⟨tb, 0, none⟩ = some (.int .i64 t)) ∧ ∃ w4, (Instr.mapUpdate 79 (.map (some mb)) (.int .i64 t) (.slice A' n' k')).run Tryz.prog w2 = .ok () w4 ∧ Hid (PoA W1 wb mb A F c fc s (putN come2 i) (out2 ++ [(i : Int)]) (.slice A9 (out2.length + 1) k9) [(tb, .int .i64 t)] (n2 + 1) (upd G2 t (some (.slice A' n' k'))) w4)) := fun W' hb => by
           rw [HLe.out]
           refine ((hP12.to hb).del HOf.out HWf.out (by simp) hsn hn2k hvq).mono ?_
           rintro e w2 ⟨A', n', k', rfl, hbx, hc2, hP⟩
           obtain ⟨w4, h4, hP4⟩ := hP w2 (Below.refl _ _)
           exact ⟨A', n', k', rfl, ⟨hc2, hbx (tb, .int .i64 t) (by simp)⟩, w4, h4, hP4.sub (by simp)⟩
          have HDx : Hid (∀ x : Value, ∀ u, u ≠ t → (upd G2 t (some x) u).isSome = hasN s (putN come2 i) u) := fun x u hu => by
           rw [upd_other _ _ hu, HD2.out u hu, Bool.eq_iff_iff, ← waits_has, ← waits_has, waits_put HOf.out, upd_other _ _ hu]
          have h0 := HSx.out W12 (Below.refl _ _)
          have g2 := h0.1
          have gt := h0.2
          clear hP12 hvq HD2 h0
          go_region_held3 (fun W' => W'.cell? ⟨wb, 2, none⟩ = some (.map (some mb)) ∧ W'.cell? ⟨tb, 0, none⟩ = some (.int .i64 t))
           (first | exact ⟨by assumption, by assumption⟩ | exact HSx.out _ (by (repeat (first | with_reducible exact Below.refl _ _ | (with_reducible refine Below.drew ?_)))) | fail)
           (first
             | (rw [HLk.out]; rotate_left; (repeat (first | with_reducible exact Below.refl _ _ | (with_reducible refine Below.drew ?_))); go_simp)
             | (go_at_call 55; refine (HDl.out _ (by (repeat (first | with_reducible exact Below.refl _ _ | (with_reducible refine Below.drew ?_))))).mono ?_; rintro e w2 ⟨A2, n2', k2, rfl, ⟨e0, e1⟩, w4, he4, hq4⟩; have q0 := hq4.out.c2; have q1 := (hq4.out.box (tb, .int .i64 t) List.mem_cons_self).1)
             | fail)
          all_goals
           go_wp2
           go_roundw
           case rel => exact ⟨putN come2 i, out2 ++ [(i : Int)], n2 + 1, _, by assumption, HIn2.out, HDx.out _, HLn3.out, HSt3.out⟩
           case measure => simp only [lenV]; omega
theorem ordE_zero {s : Sft} (h : (ordE s).2 = 0) : sftE s = 0 := by
 by_cases e : sftE s = 0
 · exact e
 · rw [ordE_e e] at h; exact absurd h e
theorem plndE_e {s : Sft} (h : (ordE s).2 ≠ 0) : plndE s = ([], (ordE s).2) := by unfold plndE; rw [if_pos h]
theorem plndE_many {s : Sft} (h : (ordE s).2 = 0) (hs : stackB s = true) : plndE s = ([], 4) := by unfold plndE; rw [if_neg (by simpa using h), if_pos hs]
theorem plndE_ok {s : Sft} (h : (ordE s).2 = 0) (hs : stackB s = false) : plndE s = ((ordE s).1, 0) := by
 unfold plndE
 rw [if_neg (by simpa using h), hs]
 simp only [Bool.false_eq_true, if_false]
 rw [← h]
def cntT (s : Sft) (t : Int) (i : Nat) : Nat := (s.to_.take i).countP fun u => decide (u = t)
theorem cntT_next {s : Sft} {t : Int} {i : Nat} (hi : i < s.to_.length) : cntT s t (i + 1) = cntT s t i + if s.to_.getD i 0 = t then 1 else 0 := by
 unfold cntT
 rw [List.take_succ_eq_append_getElem hi, List.countP_append, List.getD_eq_getElem?_getD, List.getElem?_eq_getElem hi, Option.getD_some]
 congr 1
 by_cases e : s.to_[i] = t
 · rw [if_pos e, List.countP_cons_of_pos (by simpa using e)]; rfl
 · rw [if_neg e, List.countP_cons_of_neg (by simpa using e)]; rfl
theorem stack_true {s : Sft} {t : Int} (h : 6 < cntT s t s.to_.length) : stackB s = true := by
 unfold cntT at h
 rw [List.take_length] at h
 unfold stackB
 rw [List.any_eq_true]
 obtain ⟨u, hu, he⟩ := List.countP_pos_iff.1 (Nat.lt_of_le_of_lt (Nat.zero_le 6) h)
 have e : u = t := by simpa using he
 subst e
 exact ⟨u, hu, by simpa using h⟩
theorem stack_false {s : Sft} (hs : SftOk s) (h : ∀ t : Int, 0 ≤ t → t ≤ 100 → ¬ 6 < cntT s t s.to_.length) : stackB s = false := by
 unfold stackB
 rw [List.any_eq_false]
 intro t ht
 obtain ⟨i, hi⟩ := List.mem_iff_getElem?.1 ht
 have hil := (List.getElem?_eq_some_iff.1 hi).1
 have h1 := hs.to_ i hil
 rw [List.getD_eq_getElem?_getD, hi, Option.getD_some] at h1
 have h2 := h t h1.1 h1.2.1
 unfold cntT at h2
 rw [List.take_length] at h2
 simpa using h2
theorem zero_intP (w : World) : (zeroValue 3).run Tryz.prog w = .ok (.int .i64 0) w := by kernel_rfl
theorem cntT_mono (s : Sft) (t : Int) {i j : Nat} (h : i ≤ j) : cntT s t i ≤ cntT s t j := by
 unfold cntT
 have e : s.to_.take i = (s.to_.take j).take i := by rw [List.take_take, Nat.min_eq_left h]
 rw [e]
 have := List.countP_append (p := fun u => decide (u = t)) (l₁ := (s.to_.take j).take i) (l₂ := (s.to_.take j).drop i)
 rw [List.take_append_drop] at this
 omega
structure LdA (W1 : World) (mb : Nat) (s : Sft) (i n : Nat) (G : Int → Option Value) (W : World) : Prop where
 mv : MapV W mb n G
 lo : Below W1.heap.size W1 W
 hm : W1.heap.size ≤ mb
 cnt : ∀ t, (G t).getD (.int .i64 0) = .int .i64 ((cntT s t i : Nat) : Int)
 le : ∀ t, cntT s t i ≤ 6
 nn : n ≤ i
theorem LdA.new (W1 : World) (s : Sft) : LdA W1 W1.heap.size s 0 0 (fun _ => none) (W1.alloc (.map #[] 0)) :=
 ⟨MapV.new W1, al_t _ _, Nat.le_refl _, fun t => by show _ = Value.int .i64 ((cntT s t 0 : Nat) : Int); unfold cntT; simp, fun t => by unfold cntT; simp, Nat.le_refl _⟩
theorem LdA.step {W1 W : World} {mb : Nat} {s : Sft} {i n : Nat} {G : Int → Option Value} (h : LdA W1 mb s i n G W) (hi : i < s.to_.length) (hi2 : s.to_.length ≤ 40) {z : Int} (hz : z = s.to_.getD i 0) (hw : wfK z) :
 ∃ w', (Instr.mapUpdate 114 (.map (some mb)) (.int .i64 z) (.int .i64 (((cntT s z i : Nat) : Int) + 1))).run Tryz.prog W = .ok () w' ∧ Below W1.heap.size W1 w' ∧
   (Instr.lookup 114 (.map (some mb)) (.int .i64 z) false).run Tryz.prog w' = .ok (.int .i64 (((cntT s z i : Nat) : Int) + 1)) w' ∧ (cntT s z i + 1 ≤ 6 → ∃ G', LdA W1 mb s (i + 1) (n + 1) G' w') := by
 obtain ⟨w', hr, hm, hg⟩ := h.mv.put (by have := h.nn; unfold maxLen; omega) Tryz.underlying114 hw (.int .i64 (((cntT s z i : Nat) : Int) + 1))
 have hlo : Below W1.heap.size W1 w' := h.lo.grown hg.grown h.lo.size (fun k e => by cases e; exact h.hm)
 have hNx := fun t => cntT_next (t := t) hi
 refine ⟨w', hr, hlo, ?_, fun h6 => ⟨_, hm, hlo, h.hm, fun t => ?_, fun t => ?_, by have := h.nn; omega⟩⟩
 · have := hm.look Tryz.underlying114 (zero_intP w') hw
   rw [if_pos rfl] at this
   exact this
 · by_cases e : t = z
   · subst e
     rw [if_pos rfl, hNx, if_pos hz.symm]
     show Value.int .i64 _ = _
     congr 1
   · rw [if_neg e, h.cnt, hNx, if_neg (fun e2 => e (by rw [← e2, hz])), Nat.add_zero]
 · rw [hNx]
   by_cases e : s.to_.getD i 0 = t
   · rw [if_pos e, ← e, ← hz]; exact h6
   · rw [if_neg e]; exact h.le t
set_option maxHeartbeats 8000000 in
theorem pplnd_any (A F : Option Addr) (c fc : Nat) (s : Sft) (hl : s.to_.length ≤ 4611686018427387904) (hf : s.first.length ≤ 4611686018427387904) (w : World) (h : SfAt A F s w) :
 Calls Tryz.prog 25 #[sftV A F c fc s] w fun e w' => LPost w (plndE s) e w' := by
 have hb0 := al_t w (sftB A F c fc s)
 have HX0 : Hid (SfBx w.heap.size A F c fc s (w.alloc (sftB A F c fc s)) ∧ Below w.heap.size w (w.alloc (sftB A F c fc s))) := ⟨SfBx.new c fc h, hb0⟩
 have c0 := HX0.out.1.c0
 have c1 := HX0.out.1.c1
 have HO := Lib.hid (porder_any A F c fc s hl hf _ HX0.out.1.at_)
 have hmm := @run_makeMap Tryz.prog
 obtain ⟨r, hr⟩ : ∃ r, r = plndE s := ⟨_, rfl⟩
 rw [← hr]
 clear h hb0
 by_cases hE : (ordE s).2 = 0
 case neg =>
  have HR : Hid (r = ([], (ordE s).2)) := by show _ = _; rw [hr, plndE_e hE]
  have d0 : ((ordE s).2 != 0) = true := by simpa using hE
  have HO2 := Lib.hid (show Calls _ _ _ _ fun e w' => ∃ a n k, e = .returned (.tuple #[.slice a n k, .int .i64 (ordE s).2]) ∧ Below (w.alloc (sftB A F c fc s)).heap.size (w.alloc (sftB A F c fc s)) w' from Calls.mono HO.out fun e w' ⟨a, k, he, _, hb⟩ => ⟨a, _, k, he, hb⟩)
  obtain ⟨x, hx⟩ : ∃ x, x = (ordE s).2 := ⟨_, rfl⟩
  rw [← hx] at HR d0 HO2
  clear hr hE hx HO hmm
  go_enter Tryz.func25, Tryz.ntmps25
  go_wp2_with fail
  refine HO2.out.mono ?_
  rintro e w1 ⟨a, n, k, rfl, hb1⟩
  have HB := Lib.hid (HX0.out.2.trans (hb1.mono HX0.out.2.size))
  clear hb1
  go_wp2
  go_ret2
  exact LPost.none HR.out HB.out
 case pos =>
 have hs := sftE_ok (ordE_zero hE)
 have HS := Lib.hid hs
 have hn40 : s.to_.length ≤ 40 := hs.len
 have HMa : Hid (stackB s = true → r = ([], 4)) := fun h => hr.trans (plndE_many hE h)
 have HOk : Hid (stackB s = false → r = ((ordE s).1, 0)) := fun h => hr.trans (plndE_ok hE h)
 have HO2 := Lib.hid (show Calls _ _ _ _ fun e w' => ∃ a k, e = .returned (.tuple #[.slice a (ordE s).1.length k, .int .i64 0]) ∧ SlI w' w'.heap.size a (ordE s).1 ∧ Below (w.alloc (sftB A F c fc s)).heap.size (w.alloc (sftB A F c fc s)) w' from Calls.mono HO.out fun e w' ⟨a, k, he, hsl, hb⟩ => ⟨a, k, by rw [he, hE], hsl, hb⟩)
 obtain ⟨l, hlE⟩ : ∃ l, l = (ordE s).1 := ⟨_, rfl⟩
 rw [← hlE] at HO2 HOk
 obtain ⟨pb, hpb⟩ : ∃ pb, pb = w.heap.size := ⟨_, rfl⟩
 clear hr hE hs HO hlE
 go_enter Tryz.func25, Tryz.ntmps25
 go_upto_region 4 with ((go_at_call 21; refine HO2.out.mono ?_; rintro e w1 ⟨a, k, rfl, hsl, hb1⟩))
 refine abs_world (Q := fun W => Code.wp _ _ _ _ W) (F := fun W => SfBx w.heap.size A F c fc s W ∧ SlI W W.heap.size a l ∧ Below w.heap.size w W) _ ⟨HX0.out.1.to hb1, hsl, HX0.out.2.trans (hb1.mono HX0.out.2.size)⟩ ?_
 clear HX0 c0 c1 hb1 hsl HO2
 rintro W1 ⟨hx, hsl, hb1⟩
 rw [← hpb] at hx ⊢
 have HXs : Hid (∀ W, Below W1.heap.size W1 W → SfBx pb A F c fc s W ∧ SlI W W.heap.size a l ∧ Below w.heap.size w W) := fun W hb => ⟨hx.to hb, (hsl.below hb).more hb.size, hb1.trans (hb.mono hb1.size)⟩
 obtain ⟨mb, hmb⟩ : ∃ mb, mb = W1.heap.size := ⟨_, rfl⟩
 have HLd : Hid (LdA W1 mb s 0 0 (fun _ => none) (W1.alloc (.map #[] 0))) := by
  have := LdA.new W1 s
  rw [← hmb] at this
  exact this
 clear hx hsl hb1 hpb
 go_upto_region 5 with fail
 rw [← hmb]
 refine abs_world (Q := fun W => Code.wp _ _ _ _ W) (F := fun W => LdA W1 mb s 0 0 (fun _ => none) W) _ HLd.out ?_
 clear HLd hmm hmb
 intro W2 h2
 have HL2 := Lib.hid h2
 have c0 := (HXs.out W2 h2.lo).1.c0
 clear h2
 go_wp2
 clear c0
 go_loopw [21] (fun s21 wr => ∃ (i n : Nat) (G : Int → Option Value), i ≤ s.to_.length ∧ s21 = .int .i64 (i : Int) ∧ Hid (LdA W1 mb s i n G wr)) (fun s21 _ => s.to_.length - (intOf s21).toNat)
 case atStart => exact ⟨0, 0, _, Nat.zero_le _, rfl, HL2.out⟩
 case round =>
  obtain ⟨i, n, G, hi, rfl, HL⟩ := hrel
  clear HL2
  obtain ⟨W, hW⟩ : ∃ x : World, x = wr := ⟨_, rfl⟩
  rw [← hW] at HL ⊢
  clear hW
  by_cases hlt : i < s.to_.length
  case pos =>
   obtain ⟨b, off, hA, hcl⟩ := (HXs.out W HL.out.lo).1.to_at hlt
   obtain ⟨z0, z1, -⟩ := HS.out.to_ i hlt
   obtain ⟨z, hz⟩ : ∃ z, z = s.to_.getD i 0 := ⟨_, rfl⟩
   rw [← hz] at hcl z0 z1
   have hwz : wfK z := WalkArith.wf_i64 (by omega)
   obtain ⟨w', hr1, hlo, hr2, hG⟩ := HL.out.step hlt hn40 hz hwz
   have hlk : (Instr.lookup 114 (.map (some mb)) (.int .i64 z) false).run Tryz.prog W = .ok (.int .i64 ((cntT s z i : Nat) : Int)) W := by
    have := HL.out.mv.look Tryz.underlying114 (zero_intP W) hwz
    rw [HL.out.cnt] at this
    exact this
   have hk6 := HL.out.le z
   have HMn := Lib.hid (fun h => stack_true (s := s) (t := z) (Nat.lt_of_lt_of_le h (cntT_mono s z (show i + 1 ≤ s.to_.length by omega))))
   have HNx := Lib.hid (cntT_next (t := z) hlt)
   have HN2 : Hid (cntT s z (i + 1) = cntT s z i + 1) := by show _ = _; rw [HNx.out, if_pos hz.symm]
   obtain ⟨k, hk⟩ : ∃ k, k = cntT s z i := ⟨_, rfl⟩
   rw [← hk] at hr1 hr2 hG hlk hk6 HN2
   have HB := Lib.hid (HXs.out w' hlo).2.2
   subst hA
   clear hz hwz hk HNx hlo
   by_cases e6 : k + 1 ≤ 6
   case pos =>
    have HG := Lib.hid (hG e6)
    have d1 : decide ((6 : Int) < (k : Int) + 1) = false := decide_eq_false (by omega)
    clear hG HMn
    go_wp2
    go_roundw
    case rel =>
     obtain ⟨G', hG'⟩ := HG.out
     exact ⟨i + 1, n + 1, G', by omega, by go_num, hG'⟩
    case measure => simp [intOf]; omega
   case neg =>
    have d1 : decide ((6 : Int) < (k : Int) + 1) = true := decide_eq_true (by omega)
    have HR2 := Lib.hid (HMa.out (HMn.out (by rw [HN2.out]; omega)))
    clear hG HMn
    go_wp2
    go_ret2
    exact LPost.none HR2.out HB.out
  case neg =>
   obtain rfl : i = s.to_.length := by omega
   have HR2 := Lib.hid (HOk.out (stack_false HS.out fun t _ _ => by have := HL.out.le t; omega))
   have HXe := Lib.hid (HXs.out W HL.out.lo)
   clear HL
   go_wp2
   go_ret2
   exact LPost.some_ HR2.out HXe.out.2.1 HXe.out.2.2
def IPost (w : World) (r : List Ins × Int) (e : Ending) (w' : World) : Prop := ∃ a c, e = .returned (.tuple #[.slice a r.1.length c, .int .i64 r.2]) ∧ SlX w' w'.heap.size a r.1 ∧ Below w.heap.size w w'
theorem IPost.none {w w' : World} {r : List Ins × Int} {x : Int} (h : r = ([], x)) (hb : Below w.heap.size w w') : IPost w r (.returned (.tuple #[.slice none 0 0, .int .i64 x])) w' := by
 subst h
 exact ⟨Option.none, 0, rfl, fun h => absurd rfl h, hb⟩
theorem IPost.some_ {w w' : World} {r : List Ins × Int} {l : List Ins} {n : Nat} {a : Option Addr} {c : Nat} (h : r = (l, 0)) (hn : n = l.length) (hs : SlX w' w'.heap.size a l) (hb : Below w.heap.size w w') : IPost w r (.returned (.tuple #[.slice a n c, .int .i64 0])) w' := by
 subst h hn
 exact ⟨a, c, rfl, hs, hb⟩
theorem plE_e {s : Sft} (h : (plndE s).2 ≠ 0) : plE s = ([], (plndE s).2) := by unfold plE; rw [if_pos h]
theorem plE_ok {s : Sft} (h : (plndE s).2 = 0) : plE s = (plnI s (plndE s).1, 0) := by unfold plE; rw [if_neg (by simpa using h)]
end Go.Proofs.YtflpikickbellaaGreat
