/- Layer 32. -/
import Derived.Test.YtflpikickbellaaGreatZ6
import Derived.Maps.OwnSet
import Derived.Maps.RangeWalk
import Derived.Lib.SlKeysI
namespace Go.Proofs.YtflpikickbellaaGreat
open Go.RowKit Go.Shelf Go.Sort
set_option maxRecDepth 100000
abbrev pairV (p : Int × Int) : Value := .agg #[.int .i64 p.1, .int .i64 p.2]
set_option maxHeartbeats 1000000 in
theorem idxP_any (g : Nat) (lb : Array Value) (eg : ∀ args w, (callFunc g args).run Tryz.prog w = .ok (.enter g args) w) (pr : Int × Int → Bool) (A : Option Addr) (c : Nat) (zs : List (Int × Int)) (w : World)
 (hs : SlPr w w.heap.size A zs) (hn : zs.length ≤ 4611686018427387904) (hp : ∀ x, x ∈ zs → ∀ w', Below w.heap.size w w' → Calls Tryz.prog g (#[pairV x] ++ lb) w' fun e w2 => e = .returned (.bool (pr x)) ∧ Below w'.heap.size w' w2) :
 Calls Tryz.prog 93 #[.slice A zs.length c, .func (.func g) #[] lb] w fun e w' => e = .returned (.int .i64 (idxE pr zs)) ∧ Below w.heap.size w w' := by
 go_enter Tryz.func93, Tryz.ntmps93
 go_wp2
 go_loopw [8] (fun i wr => ∃ k : Nat, k ≤ zs.length ∧ i = .int .i64 k ∧ Hid (∀ j y, j < k → zs[j]? = some y → pr y = false) ∧ Below w.heap.size w wr) (fun i _ => zs.length - (intOf i).toNat)
 case atStart => exact ⟨0, Nat.zero_le _, rfl, fun j _ hj => absurd hj (Nat.not_lt_zero j), Below.refl _ _⟩
 case round =>
  obtain ⟨k, hk, rfl, H, hbw⟩ := hrel
  by_cases hlt : k < zs.length
  · obtain ⟨b, off, z, rfl, hB, hr, q0, q1⟩ := hs.at_ hlt
    have c0 := (bcell hbw hB _).trans q0
    have c1 := (bcell hbw hB _).trans q1
    have hcall := hp z (List.mem_of_getElem? hr) wr hbw
    have HR : Hid (zs[k]? = some z) := hr
    clear hr hs hp q0 q1
    cases hq : pr z with
    | true =>
      rw [hq] at hcall
      have HQ : Hid (pr z = true) := hq
      clear hq
      go_wp2_with (go_at_fn g; refine hcall.mono ?_; rintro e w' ⟨rfl, hb1⟩)
      go_ret
      exact ⟨ret_int (idxE_hit HR.out HQ.out H.out).symm, hbw.trans (hb1.mono hbw.size)⟩
    | false =>
      rw [hq] at hcall
      have HQ : Hid (pr z = false) := hq
      clear hq
      go_wp2_with (go_at_fn g; refine hcall.mono ?_; rintro e w' ⟨rfl, hb1⟩)
      go_roundw
      case rel =>
       refine ⟨k + 1, by omega, by go_num, fun j y hj hy => ?_, hbw.trans (hb1.mono hbw.size)⟩
       by_cases e : j = k
       · subst e; rw [HR.out] at hy; injection hy with hy; subst hy; exact HQ.out
       · exact H.out j y (by omega) hy
      case measure => simp [intOf]; omega
  · have HE : Hid (idxE pr zs = -1) := idxE_none (fun j y hj => H.out j y (by omega))
    clear H hs hp
    go_wp2
    go_ret
    exact ⟨ret_int HE.out.symm, hbw⟩
theorem contP_any (g : Nat) (lb : Array Value) (eg : ∀ args w, (callFunc g args).run Tryz.prog w = .ok (.enter g args) w) (pr : Int × Int → Bool) (A : Option Addr) (c : Nat) (zs : List (Int × Int)) (w : World)
 (hs : SlPr w w.heap.size A zs) (hn : zs.length ≤ 4611686018427387904) (hp : ∀ x, x ∈ zs → ∀ w', Below w.heap.size w w' → Calls Tryz.prog g (#[pairV x] ++ lb) w' fun e w2 => e = .returned (.bool (pr x)) ∧ Below w'.heap.size w' w2) :
 Calls Tryz.prog 49 #[.slice A zs.length c, .func (.func g) #[] lb] w fun e w' => e = .returned (.bool (zs.any pr)) ∧ Below w.heap.size w w' := by
 have HA : Hid (decide (0 ≤ idxE pr zs) = zs.any pr) := idxE_any pr zs
 have hcall := Lib.hid (idxP_any g lb eg pr A c zs w hs hn hp)
 clear hs hp eg
 go_enter Tryz.func49, Tryz.ntmps49
 go_wp2_with (go_at_call 93; refine hcall.out.mono ?_; rintro e w' ⟨rfl, hb1⟩)
 go_ret
 exact ⟨ret_bool (by first | exact HA.out | (rw [← HA.out]; simp)), hb1⟩
abbrev wkV (A F : Option Addr) (c fc : Nat) (s : Sft) (mb : Nat) : Value := .agg #[.slice A s.to_.length c, .slice F s.first.length fc, .map (some mb)]
abbrev wkB (A F : Option Addr) (c fc : Nat) (s : Sft) (mb : Nat) : Obj := .cells #[.slice A s.to_.length c, .slice F s.first.length fc, .map (some mb)] 106
structure WkBx (pb : Nat) (A F : Option Addr) (c fc : Nat) (s : Sft) (mb : Nat) (W : World) : Prop where
 c0 : W.cell? ⟨pb, 0, none⟩ = some (.slice A s.to_.length c)
 c1 : W.cell? ⟨pb, 1, none⟩ = some (.slice F s.first.length fc)
 c2 : W.cell? ⟨pb, 2, none⟩ = some (.map (some mb))
 at_ : SfAt A F s W
theorem WkBx.to {pb : Nat} {A F : Option Addr} {c fc : Nat} {s : Sft} {mb : Nat} {W W' : World} (h : WkBx pb A F c fc s mb W) (hb : Below W.heap.size W W') : WkBx pb A F c fc s mb W' :=
 ⟨(bcell hb (lt_of_cell h.c0) _).trans h.c0, (bcell hb (lt_of_cell h.c1) _).trans h.c1, (bcell hb (lt_of_cell h.c2) _).trans h.c2, h.at_.to hb⟩
theorem WkBx.new {A F : Option Addr} (c fc : Nat) {s : Sft} (mb : Nat) {W : World} (h : SfAt A F s W) : WkBx W.heap.size A F c fc s mb (W.alloc (wkB A F c fc s mb)) :=
 ⟨cell_new rfl rfl rfl, cell_new rfl rfl rfl, cell_new rfl rfl rfl, h.to ((Below.refl _ W).alloc (Nat.le_refl _) _)⟩
set_option maxHeartbeats 2000000 in
theorem poff_any (A F : Option Addr) (c fc : Nat) (s : Sft) (mb : Nat) (hs : SftOk s) (i : Nat) (hi : i < s.n) (w : World) (h : SfAt A F s w) :
 Calls Tryz.prog 51 #[wkV A F c fc s mb, .int .i64 (i : Int)] w fun e w' => e = .returned (.int .i64 (offN s i)) ∧ Below w.heap.size w w' := by
 have hbx := WkBx.new c fc mb h
 obtain ⟨b, off, z, hA, -, hzz, hcl⟩ := hbx.at_.tz.at_ (k := i) hi
 have c0 := hbx.c0
 obtain ⟨h0, h1, -⟩ := hs.to_ i hi
 have hn := hs.len
 have hz : s.to_.getD i 0 = z := by rw [List.getD_eq_getElem?_getD, hzz]; rfl
 have HF : Hid (offN s i = z - (i : Int)) := by show _ = _; unfold offN; rw [hz]
 rw [hz] at h0 h1
 have HB := Lib.hid (al_t w (wkB A F c fc s mb))
 have hi' : i < s.to_.length := hi
 have hn' : s.to_.length ≤ 40 := hn
 subst hA
 clear h hbx hz hi hn hzz hs
 go_enter Tryz.func51, Tryz.ntmps51
 go_wp2
 go_ret
 exact ⟨ret_int HF.out.symm, HB.out⟩
set_option maxHeartbeats 1000000 in
theorem pmv1_any (p : Int × Int) (tb i : Nat) (w : World) (h : w.cell? ⟨tb, 0, none⟩ = some (.int .i64 (i : Int))) :
 Calls Tryz.prog 128 #[pairV p, .pointer (some ⟨tb, 0, none⟩)] w fun e w' => e = .returned (.bool (decide (p.2 = (i : Int)))) ∧ Below w.heap.size w w' := by
 obtain ⟨x, y⟩ := p
 have HB := Lib.hid (al_t w (.cells #[.int .i64 x, .int .i64 y] 48))
 have h1 : (w.alloc (.cells #[.int .i64 x, .int .i64 y] 48)).cell? ⟨tb, 0, none⟩ = some (.int .i64 (i : Int)) := (bcell HB.out (lt_of_cell h) _).trans h
 clear h
 go_enter Tryz.func128, Tryz.ntmps128
 go_wp2
 go_ret
 refine ⟨ret_bool ?_, HB.out⟩
 first
  | rfl
  | (rw [Bool.eq_iff_iff]; simp)
set_option maxHeartbeats 4000000 in
theorem pmoved_any (A F : Option Addr) (c fc : Nat) (s : Sft) (mb : Nat) (hs : SftOk s) (hf : s.first.length ≤ 4611686018427387904) (i : Nat) (hi : i < s.n) (w : World) (h : SfAt A F s w) :
 Calls Tryz.prog 90 #[wkV A F c fc s mb, .int .i64 (i : Int)] w fun e w' => e = .returned (.bool (movedN s i)) ∧ Below w.heap.size w w' := by
 have hbx := WkBx.new c fc mb h
 have hb1 := al_t w (wkB A F c fc s mb)
 have hb2 := al_t (w.alloc (wkB A F c fc s mb)) (.cells #[.int .i64 (i : Int)] 3)
 have hbx2 := hbx.to hb2
 have HB : Hid (Below w.heap.size w ((w.alloc (wkB A F c fc s mb)).alloc (.cells #[.int .i64 (i : Int)] 3))) := hb1.trans (hb2.mono hb1.size)
 have hti : ((w.alloc (wkB A F c fc s mb)).alloc (.cells #[.int .i64 (i : Int)] 3)).cell? ⟨w.heap.size + 1, 0, none⟩ = some (.int .i64 (i : Int)) := cell_new rfl (by simp) rfl
 have c0 := hbx2.c0
 have c1 := hbx2.c1
 have c2 := hbx2.c2
 have HOff := Lib.hid (poff_any A F c fc s mb hs i hi _ hbx2.at_)
 have HX : Hid (∀ W, Below ((w.alloc (wkB A F c fc s mb)).alloc (.cells #[.int .i64 (i : Int)] 3)).heap.size ((w.alloc (wkB A F c fc s mb)).alloc (.cells #[.int .i64 (i : Int)] 3)) W → W.cell? ⟨w.heap.size, 0, none⟩ = some (.slice A s.to_.length c) ∧ W.cell? ⟨w.heap.size, 1, none⟩ = some (.slice F s.first.length fc) ∧ W.cell? ⟨w.heap.size + 1, 0, none⟩ = some (.int .i64 (i : Int)) ∧ SfAt A F s W) := fun W hb =>
  ⟨(hbx2.to hb).c0, (hbx2.to hb).c1, (bcell hb (lt_of_cell hti) _).trans hti, (hbx2.to hb).at_⟩
 have HM : Hid (movedN s i = (decide (offN s i ≠ 0) || s.first.any fun p => decide (p.2 = (i : Int)))) := rfl
 obtain ⟨r, hr⟩ : ∃ r, r = movedN s i := ⟨_, rfl⟩
 rw [← hr] at HM ⊢
 obtain ⟨o, ho⟩ : ∃ o, o = offN s i := ⟨_, rfl⟩
 rw [← ho] at HOff HM
 have hmf : ∀ (fn : Fn) (first cap : Array Value) (w : World), (Instr.makeFunc fn first cap).run Tryz.prog w = .ok (.func fn first cap) w := fun _ _ _ _ => rfl
 clear h hbx hbx2 hb1 hb2 hr ho hs
 by_cases e0 : o = 0
 case neg =>
  have d0 : (o != 0) = true := by simpa using e0
  have HR : Hid (r = true) := by show _ = _; rw [HM.out, decide_eq_true e0]; rfl
  clear e0 HM
  go_enter Tryz.func90, Tryz.ntmps90
  go_wp2_with ((go_at_call 51; refine HOff.out.mono ?_; rintro e w1 ⟨rfl, hb1⟩))
  go_ret
  exact ⟨ret_bool HR.out.symm, HB.out.trans (hb1.mono HB.out.size)⟩
 case pos =>
  subst e0
  have HR : Hid (r = s.first.any fun p => decide (p.2 = (i : Int))) := by show _ = _; rw [HM.out]; rfl
  clear HM
  go_enter Tryz.func90, Tryz.ntmps90
  go_wp2_with fail
  refine HOff.out.mono ?_
  rintro e w3 ⟨rfl, hb3⟩
  obtain ⟨d0, d1, d2, hat⟩ := HX.out w3 hb3
  have HCn := Lib.hid (contP_any 128 #[.pointer (some ⟨w.heap.size + 1, 0, none⟩)] (enters_of Tryz.func128 (by kernel_rfl) rfl) (fun p => decide (p.2 = (i : Int))) F fc s.first w3 hat.fr hf (fun x _ w' hb => pmv1_any x (w.heap.size + 1) i w' ((bcell hb (lt_of_cell d2) _).trans d2)))
  have HB3 := Lib.hid (HB.out.trans (hb3.mono HB.out.size))
  clear hb3 hat c0 c1 c2 hti HX HOff
  go_wp2_with ((go_at_call 49; refine HCn.out.mono ?_; rintro e w4 ⟨rfl, hb4⟩))
  go_ret
  refine ⟨ret_bool ?_, HB3.out.trans (hb4.mono HB3.out.size)⟩
  first
   | exact HR.out.symm
   | (rw [HR.out]; simp)
end Go.Proofs.YtflpikickbellaaGreat
namespace Go.Proofs.YtflpikickbellaaGreat
open Go.RowKit Go.Maps Go.ChangeMaps
set_option maxRecDepth 100000
def rawR : Value → Option (DataW Value × List MemPlace) := fun v => some (.held v, [])
def litK (k : Int) : Lit := .int .i64 k
def wfK (k : Int) : Prop := (Lit.int .i64 k).wf = true
structure MapD (G : Int → Option Value) (D : DataW Value) : Prop where
 has : ∀ k, Maps.has D (litK k) = (G k).isSome
 at_ : ∀ k v z, G k = some v → D.atKey (litK k) z = .held v
theorem litK_inj {a b : Int} (h : a ≠ b) : litK a ≠ litK b := fun e => h (by injection e)
theorem litK_key (k : Int) : WideAt.IsKeyLit (litK k) := by unfold litK; trivial
theorem mapD_empty : MapD (fun _ => none) (.map []) := ⟨fun _ => rfl, fun _ _ _ h => by cases h⟩
theorem MapD.put {G : Int → Option Value} {D : DataW Value} (h : MapD G D) (hD : IsMap D) (k : Int) (v : Value) : MapD (fun j => if j = k then some v else G j) (D.put (litK k) (.held v)) := by
 refine ⟨fun j => ?_, fun j u z hj => ?_⟩
 · by_cases e : j = k
   · subst e
     rw [if_pos rfl, has_put_same hD (litK_key j)]; rfl
   · rw [if_neg e, has_put_other (litK_inj e)]
     exact h.has j
 · by_cases e : j = k
   · subst e
     rw [if_pos rfl] at hj
     cases hj
     exact atKey_put_same hD (litK_key j) _ _
   · rw [if_neg e] at hj
     rw [atKey_put_other (litK_inj e)]
     exact h.at_ j u z hj
theorem MapD.del {G : Int → Option Value} {D : DataW Value} (h : MapD G D) (k : Int) : MapD (fun j => if j = k then none else G j) (D.del (litK k)) := by
 refine ⟨fun j => ?_, fun j u z hj => ?_⟩
 · by_cases e : j = k
   · subst e
     rw [if_pos rfl, has_del_same]; rfl
   · rw [if_neg e, has_del_other (litK_inj e)]
     exact h.has j
 · by_cases e : j = k
   · rw [if_pos e] at hj; cases hj
   · rw [if_neg e] at hj
     rw [atKey_del_other (litK_inj e)]
     exact h.at_ j u z hj
def MapV (w : World) (mb n : Nat) (G : Int → Option Value) : Prop := ∃ D, w.ownsMap Tryz.prog 3 rawR mb n D ∧ MapD G D
theorem MapV.lt {w : World} {mb n : Nat} {G : Int → Option Value} (h : MapV w mb n G) : mb < w.heap.size := by obtain ⟨D, h1, -⟩ := h; exact h1.lt
theorem MapV.new (w : World) : MapV (w.alloc (.map #[] 0)) w.heap.size 0 (fun _ => none) := ⟨.map [], World.ownsMap_made _ _ _ _, mapD_empty⟩
theorem MapV.kept {w w' : World} {mb n : Nat} {G : Int → Option Value} {row : Option Nat} (h : MapV w mb n G) (hg : w.grownBy w' row) (hne : some mb ≠ row) : MapV w' mb n G := by
 obtain ⟨D, h1, h2⟩ := h; exact ⟨D, h1.kept hg hne, h2⟩
theorem MapV.below {w w' : World} {mb n B : Nat} {G : Int → Option Value} (h : MapV w mb n G) (hb : Below B w w') (hm : mb < B) : MapV w' mb n G := by
 obtain ⟨D, ⟨es, clock, hh, F, hs, hD⟩, h2⟩ := h
 exact ⟨D, ⟨es, clock, (hb.block mb hm).trans hh, F, hs, hD⟩, h2⟩
theorem keyK {k : Int} (hk : wfK k) : keyOf Tryz.prog 3 (.int .i64 k) = some (litK k) := keyOf_int_mk Tryz.underlying3 hk
theorem MapV.look {w : World} {mb n : Nat} {G : Int → Option Value} (h : MapV w mb n G) {T E : TypeId} (hT : Tryz.prog.underlying T = some (.map 3 E)) {z : Value} (hz : (zeroValue E).run Tryz.prog w = .ok z w) {k : Int} (hk : wfK k) :
 (Instr.lookup T (.map (some mb)) (.int .i64 k) false).run Tryz.prog w = .ok ((G k).getD z) w := by
 obtain ⟨D, h1, h2⟩ := h
 obtain ⟨v, ps, hr, hv⟩ := h1.lookup (int_keyed Tryz.underlying3) hT hz (zd := .held z) (zp := []) rfl (keyK hk)
 rw [hr]
 congr 1
 unfold rawR at hv
 simp only [Option.some.injEq, Prod.mk.injEq] at hv
 cases hG : G k with
 | none =>
   have := h2.has k
   rw [hG] at this
   rw [atKey_of_not_has this] at hv
   injection hv.1
 | some u =>
   rw [h2.at_ k u _ hG] at hv
   injection hv.1
theorem MapV.put {w : World} {mb n : Nat} {G : Int → Option Value} (h : MapV w mb n G) (hn : n < maxLen) {T E : TypeId} (hT : Tryz.prog.underlying T = some (.map 3 E)) {k : Int} (hk : wfK k) (v : Value) :
 ∃ w', (Instr.mapUpdate T (.map (some mb)) (.int .i64 k) v).run Tryz.prog w = .ok () w' ∧ MapV w' mb (n + 1) (fun j => if j = k then some v else G j) ∧ w.mapTurned w' mb := by
 obtain ⟨D, h1, h2⟩ := h
 obtain ⟨w', hr, h3, h4⟩ := h1.store (int_keyed Tryz.underlying3) hT hn (keyK hk) (val := v) (d := .held v) (ps := []) rfl
 exact ⟨w', hr, ⟨_, h3, h2.put h1.isMap k v⟩, h4⟩
theorem MapV.drop {w : World} {mb n : Nat} {G : Int → Option Value} (h : MapV w mb n G) {T E : TypeId} (hT : Tryz.prog.underlying T = some (.map 3 E)) {k : Int} (hk : wfK k) (ty : TypeId) :
 ∃ w', (Builtin.delete_ #[T, 3] ty #[.map (some mb), .int .i64 k]).run Tryz.prog w = .ok (.tuple #[]) w' ∧ MapV w' mb n (fun j => if j = k then none else G j) ∧ w.mapTurned w' mb := by
 obtain ⟨D, h1, h2⟩ := h
 obtain ⟨w', hr, h3, h4⟩ := h1.drop (int_keyed Tryz.underlying3) hT (keyK hk) ty
 exact ⟨w', hr, ⟨_, h3, h2.del k⟩, h4⟩
theorem key_lit {l : Lit} (h : KeysOf Tryz.prog 3 l) : ∃ k, l = litK k ∧ wfK k := by
 obtain ⟨v, hv⟩ := h
 obtain ⟨a, -, h1, h2⟩ := keyOf_int_inv Tryz.underlying3 hv
 exact ⟨a, h1, h2⟩
theorem same_self (k : Int) : (litK k).sameKey (litK k) = true := by
 unfold litK
 simp [Lit.sameKey]
theorem MapV.keys {w : World} {mb n : Nat} {G : Int → Option Value} (h : MapV w mb n G) :
 ∃ D, w.ownsMap Tryz.prog 3 rawR mb n D ∧ MapD G D ∧ (intKeys D).Nodup ∧ (∀ k, k ∈ intKeys D ↔ (G k).isSome = true) ∧ (∀ k ∈ intKeys D, wfK k) ∧ Maps.size D = (intKeys D).length := by
 obtain ⟨D, h1, h2⟩ := h
 refine ⟨D, h1, h2, ?_⟩
 obtain ⟨es0, hD, hap⟩ := h1.tidy (int_keyed Tryz.underlying3)
 obtain ⟨es, clock, hb, F, hs, hD2⟩ := h1
 have hk : ∀ p ∈ es0, ∃ k, p.1 = litK k ∧ wfK k := fun p hp => by
  rw [hD] at hD2
  injection hD2 with e
  rw [e] at hp
  exact key_lit (Maps.fit_keys F p (Go.mem_sorted.1 hp))
 have hhas := h2.has
 subst hD
 have hm : ∀ k, k ∈ intKeys (DataW.map es0) ↔ (G k).isSome = true := fun k => by
  rw [← hhas k, Maps.has_eq, List.any_eq_true]
  unfold intKeys
  rw [List.mem_map]
  constructor
  · rintro ⟨p, hp, e⟩
    obtain ⟨k', e', -⟩ := hk p hp
    rw [e'] at e
    have e2 : k' = k := e
    subst e2
    exact ⟨p, hp, by rw [e']; exact same_self k'⟩
  · rintro ⟨p, hp, e⟩
    obtain ⟨k', e', -⟩ := hk p hp
    by_cases ek : k' = k
    · exact ⟨p, hp, by rw [e', ek]; rfl⟩
    · rw [e', sameKey_ne (litK_inj ek)] at e
      cases e
 refine ⟨?_, hm, fun k hk2 => ?_, ?_⟩
 · unfold intKeys
   rw [List.Nodup, List.pairwise_map]
   refine List.Pairwise.imp_of_mem ?_ hap
   intro p q hp hq hne e
   obtain ⟨k, e1, -⟩ := hk p hp
   obtain ⟨k', e2, -⟩ := hk q hq
   apply hne
   rw [e1, e2] at e ⊢
   have e3 : k = k' := e
   rw [e3]
 · unfold intKeys at hk2
   obtain ⟨p, hp, e⟩ := List.mem_map.1 hk2
   obtain ⟨k', e', hw⟩ := hk p hp
   rw [e'] at e
   have e3 : k' = k := e
   rw [← e3]; exact hw
 · unfold intKeys
   rw [List.length_map, Maps.size_eq]
theorem MapV.len {w : World} {mb n : Nat} {G : Int → Option Value} (h : MapV w mb n G) {T E : TypeId} (hT : Tryz.prog.underlying T = some (.map 3 E)) {L : List Int} (hL : L.Nodup) (hm : ∀ k, k ∈ L ↔ (G k).isSome = true) (ty : TypeId) :
 (Builtin.len_ #[T] ty #[.map (some mb)]).run Tryz.prog w = .ok (.int .i64 (L.length : Int)) w := by
 obtain ⟨D, h1, h2, h3, h4, -, h5⟩ := h.keys
 have hp : (intKeys D).Perm L := (List.perm_ext_iff_of_nodup h3 hL).2 fun k => by rw [h4, hm]
 rw [h1.len hT ty, h5, hp.length_eq]
end Go.Proofs.YtflpikickbellaaGreat
namespace Go.Proofs.YtflpikickbellaaGreat
open Go.RowKit Go.Shelf Go.Sort
set_option maxRecDepth 100000
def waitsN (s : Sft) (come : Nat → Bool) (t : Int) : List Int := ((List.range s.n).filter (atN s come t)).map fun i : Nat => (i : Int)
theorem waitsN_mem {s : Sft} {come : Nat → Bool} {t : Int} {i : Nat} : (i : Int) ∈ waitsN s come t ↔ i < s.n ∧ offN s i = t ∧ waitN s come i = true := by
 unfold waitsN atN
 rw [List.mem_map]
 constructor
 · rintro ⟨j, hj, e⟩
   obtain rfl : j = i := by omega
   obtain ⟨h1, h2⟩ := List.mem_filter.1 hj
   rw [Bool.and_eq_true, decide_eq_true_eq] at h2
   exact ⟨List.mem_range.1 h1, h2.1, h2.2⟩
 · rintro ⟨h1, h2, h3⟩
   exact ⟨i, List.mem_filter.2 ⟨List.mem_range.2 h1, by rw [Bool.and_eq_true, decide_eq_true_eq]; exact ⟨h2, h3⟩⟩, rfl⟩
theorem waitsN_len (s : Sft) (come : Nat → Bool) (t : Int) : (waitsN s come t).length ≤ s.n := by
 unfold waitsN
 rw [List.length_map]
 have := List.length_filter_le (atN s come t) (List.range s.n)
 rwa [List.length_range] at this
def WtV (s : Sft) (come : Nat → Bool) (t : Int) (W : World) (o : Option Value) : Prop := ∃ a c, o.getD (.slice none 0 0) = .slice a (waitsN s come t).length c ∧ SlI W W.heap.size a (waitsN s come t)
def WtA (mb : Nat) (s : Sft) (come : Nat → Bool) (W : World) : Prop := ∃ (nn : Nat) (G : Int → Option Value), MapV W mb nn G ∧ ∀ t, WtV s come t W (G t)
theorem WtA.to {mb : Nat} {s : Sft} {come : Nat → Bool} {W W' : World} (h : WtA mb s come W) (hb : Below W.heap.size W W') : WtA mb s come W' := by
 obtain ⟨nn, G, h1, h2⟩ := h
 refine ⟨nn, G, h1.below hb h1.lt, fun t => ?_⟩
 obtain ⟨a, c, e, hs⟩ := h2 t
 exact ⟨a, c, e, (hs.below hb).more hb.size⟩
theorem zero_ints (w : World) : (zeroValue 22).run Tryz.prog w = .ok (.slice none 0 0) w := by kernel_rfl
theorem pcontains_any (A : Option Addr) (c : Nat) (zs : List Int) (x : Int) (w : World) (hs : SlI w w.heap.size A zs) (hl : zs.length ≤ 1000000) :
 Calls Tryz.prog 29 #[.slice A zs.length c, .int .i64 x] w fun e w' => e = .returned (.bool (zs.contains x)) ∧ w' = w := by
 cases zs with
 | nil => exact Tryz.slices_Contains_int_empty A c x w
 | cons a r =>
   obtain ⟨b, off, rfl, hB, hc⟩ := hs (by simp)
   have h := Tryz.slices_Contains_int b off (a :: r).length c (a :: r) x w (Nat.le_refl _) (by omega) (fun j hj => by
    rw [hc j (a :: r)[j] (List.getElem?_eq_getElem hj), List.getD_eq_getElem?_getD, List.getElem?_eq_getElem hj]; rfl)
   rw [List.take_length] at h
   exact h
theorem wfK_small {k : Int} (h1 : -8 ≤ k) (h2 : k ≤ 8) : wfK k := WalkArith.wf_i64 (by omega)
theorem wait_has {s : Sft} {come : Nat → Bool} {i : Nat} (hi : i < s.n) : (waitsN s come (offN s i)).contains (i : Int) = waitN s come i := by
 rw [Bool.eq_iff_iff, List.contains_iff_mem, waitsN_mem]
 exact ⟨fun h => h.2.2, fun h => ⟨hi, rfl, h⟩⟩
set_option maxHeartbeats 4000000 in
theorem pwaiting_any (A F : Option Addr) (c fc : Nat) (s : Sft) (mb : Nat) (hs : SftOk s) (come : Nat → Bool) (i : Nat) (hi : i < s.n) (w : World) (h : SfAt A F s w) (hw : WtA mb s come w) :
 Calls Tryz.prog 52 #[wkV A F c fc s mb, .int .i64 (i : Int)] w fun e w' => e = .returned (.bool (waitN s come i)) ∧ Below w.heap.size w w' := by
 have hbx := WkBx.new c fc mb h
 have hb1 := al_t w (wkB A F c fc s mb)
 have HB := Lib.hid hb1
 have c0 := hbx.c0
 have c1 := hbx.c1
 have c2 := hbx.c2
 have hdr : Below (w.alloc (wkB A F c fc s mb)).heap.size (w.alloc (wkB A F c fc s mb)) (w.alloc (wkB A F c fc s mb)).drew := Below.drew (Below.refl _ _)
 have HOff := Lib.hid (fun W hb => poff_any A F c fc s mb hs i hi W (hbx.at_.to hb))
 have hor := (hs.to_ i hi).2.2
 obtain ⟨nn, G, hm1, hm2⟩ := hw
 obtain ⟨a, k, e, hsl⟩ := hm2 (offN s i)
 have HLk : Hid (∀ W, Below (w.alloc (wkB A F c fc s mb)).heap.size (w.alloc (wkB A F c fc s mb)) W → W.cell? ⟨w.heap.size, 0, none⟩ = some (.slice A s.to_.length c) ∧ W.cell? ⟨w.heap.size, 1, none⟩ = some (.slice F s.first.length fc) ∧ W.cell? ⟨w.heap.size, 2, none⟩ = some (.map (some mb)) ∧ (Instr.lookup 79 (.map (some mb)) (.int .i64 (offN s i)) false).run Tryz.prog W = .ok (.slice a (waitsN s come (offN s i)).length k) W ∧ SlI W W.heap.size a (waitsN s come (offN s i)) ∧ Below (w.alloc (wkB A F c fc s mb)).heap.size (w.alloc (wkB A F c fc s mb)) W) := fun W hb => by
  have h1 := (hm1.below hb1 hm1.lt).below hb (Nat.lt_of_lt_of_le hm1.lt hb1.size)
  refine ⟨(hbx.to hb).c0, (hbx.to hb).c1, (hbx.to hb).c2, ?_, (((hsl.below hb1).more hb1.size).below hb).more hb.size, hb⟩
  rw [← e]
  exact h1.look Tryz.underlying79 (zero_ints W) (wfK_small hor.1 hor.2)
 have HR : Hid ((waitsN s come (offN s i)).contains (i : Int) = waitN s come i) := wait_has hi
 have hwl : (waitsN s come (offN s i)).length ≤ 1000000 := by have := waitsN_len s come (offN s i); have := hs.len; omega
 obtain ⟨r, hr⟩ : ∃ r, r = waitN s come i := ⟨_, rfl⟩
 rw [← hr] at HR ⊢
 obtain ⟨L, hL⟩ : ∃ L, L = waitsN s come (offN s i) := ⟨_, rfl⟩
 rw [← hL] at HR hwl
 simp only [← hL] at HLk
 obtain ⟨o, ho⟩ : ∃ o, o = offN s i := ⟨_, rfl⟩
 simp only [← ho] at HLk HOff
 clear h hbx hb1 hr hL ho hs hor hm1 hm2 e hsl
 go_enter Tryz.func52, Tryz.ntmps52
 have HOff2 : Hid (∀ W', (W'.cell? ⟨w.heap.size, 0, none⟩ = some (.slice A s.to_.length c) ∧ W'.cell? ⟨w.heap.size, 1, none⟩ = some (.slice F s.first.length fc) ∧ W'.cell? ⟨w.heap.size, 2, none⟩ = some (.map (some mb)) ∧ (Instr.lookup 79 (.map (some mb)) (.int .i64 o) false).run Tryz.prog W' = .ok (.slice a L.length k) W' ∧ SlI W' W'.heap.size a L ∧ Below (w.alloc (wkB A F c fc s mb)).heap.size (w.alloc (wkB A F c fc s mb)) W') → Calls Tryz.prog 51 #[wkV A F c fc s mb, .int .i64 (i : Int)] W' fun e w' => e = .returned (.int .i64 o) ∧ Below W'.heap.size W' w') := fun W' h => HOff.out W' h.2.2.2.2.2
 have HCn : Hid (∀ W', (W'.cell? ⟨w.heap.size, 0, none⟩ = some (.slice A s.to_.length c) ∧ W'.cell? ⟨w.heap.size, 1, none⟩ = some (.slice F s.first.length fc) ∧ W'.cell? ⟨w.heap.size, 2, none⟩ = some (.map (some mb)) ∧ (Instr.lookup 79 (.map (some mb)) (.int .i64 o) false).run Tryz.prog W' = .ok (.slice a L.length k) W' ∧ SlI W' W'.heap.size a L ∧ Below (w.alloc (wkB A F c fc s mb)).heap.size (w.alloc (wkB A F c fc s mb)) W') → Calls Tryz.prog 29 #[.slice a L.length k, .int .i64 (i : Int)] W' fun e w' => e = .returned (.bool (L.contains (i : Int))) ∧ w' = W') := fun W' h => pcontains_any a k L (i : Int) W' h.2.2.2.2.1 hwl
 have HK : Hid (∀ W W', (W.cell? ⟨w.heap.size, 0, none⟩ = some (.slice A s.to_.length c) ∧ W.cell? ⟨w.heap.size, 1, none⟩ = some (.slice F s.first.length fc) ∧ W.cell? ⟨w.heap.size, 2, none⟩ = some (.map (some mb)) ∧ (Instr.lookup 79 (.map (some mb)) (.int .i64 o) false).run Tryz.prog W = .ok (.slice a L.length k) W ∧ SlI W W.heap.size a L ∧ Below (w.alloc (wkB A F c fc s mb)).heap.size (w.alloc (wkB A F c fc s mb)) W) → Below W.heap.size W W' → W'.cell? ⟨w.heap.size, 0, none⟩ = some (.slice A s.to_.length c) ∧ W'.cell? ⟨w.heap.size, 1, none⟩ = some (.slice F s.first.length fc) ∧ W'.cell? ⟨w.heap.size, 2, none⟩ = some (.map (some mb)) ∧ (Instr.lookup 79 (.map (some mb)) (.int .i64 o) false).run Tryz.prog W' = .ok (.slice a L.length k) W' ∧ SlI W' W'.heap.size a L ∧ Below (w.alloc (wkB A F c fc s mb)).heap.size (w.alloc (wkB A F c fc s mb)) W') := fun W W' h1 h2 => HLk.out W' (h1.2.2.2.2.2.trans (h2.mono h1.2.2.2.2.2.size))
 have HS0 := Lib.hid (HLk.out _ (Below.refl _ _))
 generalize L.contains (i : Int) = q at HCn HR
 clear HOff
 go_wp2
 go_region_held3 (fun W' => W'.cell? ⟨w.heap.size, 0, none⟩ = some (.slice A s.to_.length c) ∧ W'.cell? ⟨w.heap.size, 1, none⟩ = some (.slice F s.first.length fc) ∧ W'.cell? ⟨w.heap.size, 2, none⟩ = some (.map (some mb)) ∧ (Instr.lookup 79 (.map (some mb)) (.int .i64 o) false).run Tryz.prog W' = .ok (.slice a L.length k) W' ∧ SlI W' W'.heap.size a L ∧ Below (w.alloc (wkB A F c fc s mb)).heap.size (w.alloc (wkB A F c fc s mb)) W')
  (first | exact HK.out _ _ HS0.out (Below.drew (Below.refl _ _)) | exact (by assumption) | exact HK.out _ _ (by assumption) (by assumption) | fail)
  (first
    | (go_at_call 51; refine (HOff2.out _ (by assumption)).mono ?_; rintro e w' ⟨rfl, hb3⟩)
    | (go_at_call 29; refine (HCn.out _ (by assumption)).mono ?_; rintro e w' ⟨rfl, rfl⟩))
 rename_i hS1
 have HB3 := Lib.hid hS1.2.2.2.2.2
 clear hS1 HS0 HK
 go_wp2
 go_ret
 exact ⟨ret_bool HR.out, HB.out.trans (HB3.out.mono HB.out.size)⟩
end Go.Proofs.YtflpikickbellaaGreat
