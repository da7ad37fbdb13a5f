/- Layer 32. -/
import Derived.Test.YtflpikickbellaaGreatZ32
namespace Go.Proofs.YtflpikickbellaaGreat
open Go.RowKit Go.Shelf Go.Sort
set_option maxRecDepth 100000
def ShPost (w : World) (r : Sft × Int) (e : Ending) (w' : World) : Prop :=
 ∃ At ct Af cf, e = .returned (.tuple #[.agg #[.slice At r.1.to_.length ct, .slice Af r.1.first.length cf], .int .i64 r.2]) ∧ SlI w' w'.heap.size At r.1.to_ ∧ SlPr w' w'.heap.size Af r.1.first ∧ Below w.heap.size w w'
theorem ShPost.none {w w' : World} {r : Sft × Int} {x : Int} (h : r = (⟨[], []⟩, x)) (hb : Below w.heap.size w w') : ShPost w r (.returned (.tuple #[.agg #[.slice none 0 0, .slice none 0 0], .int .i64 x])) w' := by
 subst h
 exact ⟨Option.none, 0, Option.none, 0, rfl, fun h => absurd rfl h, SlPr.nil, hb⟩
theorem of_close {W : World} {tmps : Array Value} {v f : Value} {x : Int} {b : Nat} {R : Ending → World → Prop} (c0 : W.cell? ⟨b, 0, none⟩ = some v) (c1 : W.cell? ⟨b, 1, none⟩ = some f) (h6 : tmps[2]?.getD undef = .pointer (some ⟨b, 0, none⟩)) (h7 : tmps[3]?.getD undef = .int .i64 x) (hR : R (.returned (.tuple #[.agg #[v, f], .int .i64 x])) W) :
 bodyPost Tryz.prog Tryz.f17 R .ret { tmps := tmps, defers := [] } W := by
 refine bodyPost_ret (v := .tuple #[.agg #[v, f], .int .i64 x]) ?_ rfl hR
 simp [results, Tryz.results17, go_sem, h6, h7, c0, c1]
structure RbA (w : World) (rb : Nat) (W : World) : Prop where
 r0 : W.cell? ⟨rb, 0, none⟩ = some (.slice none 0 0)
 r1 : W.cell? ⟨rb, 1, none⟩ = some (.slice none 0 0)
 fz : ∀ k, W.frozen? ⟨rb, k, none⟩ = false
 lo : Below w.heap.size w W
 hr : w.heap.size ≤ rb
theorem RbA.to {w W W' : World} {rb : Nat} (h : RbA w rb W) (hb : Below W.heap.size W W') : RbA w rb W' :=
 ⟨(bcell hb (lt_of_cell h.r0) _).trans h.r0, (bcell hb (lt_of_cell h.r1) _).trans h.r1, fun k => (Below.frozen hb (p := ⟨rb, k, none⟩) (lt_of_cell h.r0)).trans (h.fz k), h.lo.trans (hb.mono h.lo.size), h.hr⟩
theorem RbA.new (w : World) : RbA w w.heap.size (w.alloc (.cells #[.slice none 0 0, .slice none 0 0] 25)) :=
 ⟨cell_new rfl rfl rfl, cell_new rfl rfl rfl, fun k => thawed_new' _ _ _ k rfl, al_t _ _, Nat.le_refl _⟩
theorem RbA.lay {w W : World} {rb : Nat} (h : RbA w rb W) (x y : Value) : ((W.setCell ⟨rb, 0, none⟩ x).setCell ⟨rb, 1, none⟩ y).cell? ⟨rb, 0, none⟩ = some x ∧ ((W.setCell ⟨rb, 0, none⟩ x).setCell ⟨rb, 1, none⟩ y).cell? ⟨rb, 1, none⟩ = some y ∧
 Below w.heap.size w ((W.setCell ⟨rb, 0, none⟩ x).setCell ⟨rb, 1, none⟩ y) ∧ W.grownBy ((W.setCell ⟨rb, 0, none⟩ x).setCell ⟨rb, 1, none⟩ y) (some rb) := by
 have hg := grown_trans (grown_setAt W rb 0 x) (grown_setAt _ rb 1 y)
 exact ⟨set_other (by omega) (set_same h.r0), set_same (set_other (by omega) h.r1), h.lo.grown hg h.lo.size (fun k e => by cases e; exact h.hr), hg⟩
theorem runO_bnd {l : List Stc} (hl : ∀ s ∈ l, CellOk s) : ∀ k, k ≤ l.length → ∀ x ∈ (runO l k).to_, 0 ≤ x ∧ x ≤ 12 * (k : Int) + 12
 | 0, _, x, hx => by cases hx
 | k + 1, hk, x, hx => by
   have hx' : l[k]? = some l[k] := List.getElem?_eq_getElem (by omega)
   have hc := hl _ (List.getElem_mem (show k < l.length by omega))
   obtain ⟨h1, -, -⟩ := runO_len hl k (by omega)
   rw [runO_next hx'] at hx
   unfold stepO at hx
   rcases List.mem_append.1 hx with h2 | h2
   · have := runO_bnd hl k (by omega) x h2
     omega
   · unfold toI at h2
     obtain ⟨i, hi, rfl⟩ := List.mem_map.1 h2
     obtain ⟨r1, r2⟩ := hc.rng
     unfold toF
     split
     · rename_i h3
       have h4 := r2 h3
       have h5 := Int.emod_nonneg ((i : Int) + l[k].b) (show l[k].a + l[k].b ≠ 0 by omega)
       have h6 := Int.emod_lt_of_pos ((i : Int) + l[k].b) (show 0 < l[k].a + l[k].b by omega)
       omega
     · omega
theorem OfA.sorted {W1 W W' : World} {sb c : Nat} {to_ : List Int} {fr : List (Int × Int)} {vt : Value} {a : Option Addr} (h : OfA W1 sb to_ fr vt (.slice a fr.length c) [] W) (hg : W.grownBy W' (Value.slice a fr.length c).ownBlock) :
 W'.cell? ⟨sb, 0, none⟩ = some vt ∧ W'.cell? ⟨sb, 1, none⟩ = some (.slice a fr.length c) ∧ (pxJ vt to_).lies W' W1.heap.size ∧ Below W1.heap.size W1 W' := by
 have hp : Owns W W1.heap.size (pxP (.slice a fr.length c) fr :: sfO sb vt (.slice a fr.length c) :: [pxJ vt to_]) := h.own.perm ((List.Perm.cons _ (List.Perm.swap _ _ _)).trans (List.Perm.swap _ _ _))
 have hk : ∀ x ∈ sfO sb vt (.slice a fr.length c) :: [pxJ vt to_], x.lies W' W1.heap.size := fun x hx => by
  refine World.ownsRow.kept (hp.all x (List.mem_cons_of_mem _ hx)) hg ?_
  cases e : x.v.ownBlock with
  | none => exact Or.inl rfl
  | some k => exact Or.inr fun e2 => (List.pairwise_cons.1 hp.apart).1 x hx k e2.symm e
 obtain ⟨q0, q1, -⟩ := sfO_at (hk _ List.mem_cons_self)
 exact ⟨q0, q1, hk _ (by simp), h.lo.grown hg h.lo.size (fun k e => (World.ownsRow.lt (hp.head) k e).1)⟩
theorem of_end {w W1 W' : World} {rb : Nat} {to_ : List Int} {fs : List (Int × Int)} {vt : Value} {a : Option Addr} {c n : Nat} {r : Sft × Int} (hr : RbA w rb W') (hrb : rb < W1.heap.size) (ht : (pxJ vt to_).lies W' W1.heap.size) (hf : SlPr W' W'.heap.size a fs) (hfb : ∀ b off, a = some ⟨b, off, none⟩ → fs ≠ [] → W1.heap.size ≤ b)
 (hn : n = fs.length) (he : r = (⟨to_, fs⟩, 0)) : ShPost w r (.returned (.tuple #[.agg #[vt, .slice a n c], .int .i64 0])) ((W'.setCell ⟨rb, 0, none⟩ vt).setCell ⟨rb, 1, none⟩ (.slice a n c)) := by
 subst he hn
 obtain ⟨-, -, hb, hg⟩ := hr.lay vt (.slice a fs.length c)
 have ht2 : (pxJ vt to_).lies ((W'.setCell ⟨rb, 0, none⟩ vt).setCell ⟨rb, 1, none⟩ (.slice a fs.length c)) W1.heap.size := by
  refine World.ownsRow.kept ht hg ?_
  cases e : (pxJ vt to_).v.ownBlock with
  | none => exact Or.inl rfl
  | some k =>
    refine Or.inr fun e2 => ?_
    have := (World.ownsRow.lt ht k e).1
    cases e2
    omega
 have hO : Owns ((W'.setCell ⟨rb, 0, none⟩ vt).setCell ⟨rb, 1, none⟩ (.slice a fs.length c)) W1.heap.size [pxJ vt to_] := ⟨fun o ho => by rw [List.mem_singleton.1 ho]; exact ht2, List.pairwise_singleton _ _⟩
 obtain ⟨at_, ct, rfl⟩ := pxJ_form hO
 refine ⟨at_, ct, a, c, rfl, pxJ_sl hO, fun hne => ?_, hb⟩
 obtain ⟨b, off, ea, hbl, hat⟩ := hf hne
 refine ⟨b, off, ea, Nat.lt_of_lt_of_le hbl hg.size, fun j cs hz i v hv => hg.cell (hat j cs hz i v hv) (fun e => ?_)⟩
 have h1 := hfb b off ea (fun e => by rw [e] at hne; exact hne rfl)
 have h2 : b = rb := Option.some.inj e
 omega
set_option maxHeartbeats 64000000 in
theorem pof_any (A : Option Addr) (c : Nat) (l : List Stc) (hw : ∀ s ∈ l, s.wf) (w : World) (hs : SlT w w.heap.size A l) :
 Calls Tryz.prog 17 #[.slice A l.length c] w fun e w' => ShPost w (ofE l) e w' := by
 have hb1 := al_t w (.cells #[.slice none 0 0, .slice none 0 0] 25)
 have HR0 := Lib.hid (RbA.new w)
 have hs1 := (hs.below hb1).more hb1.size
 have HU := Lib.hid (uses_any A c l hw _ hs1)
 have HT := Lib.hid hs1
 obtain ⟨r, hr⟩ : ∃ r, r = ofE l := ⟨_, rfl⟩
 rw [← hr]
 obtain ⟨rb, hrb⟩ : ∃ rb, rb = w.heap.size := ⟨_, rfl⟩
 have HR0 : Hid (RbA w rb (w.alloc (.cells #[.slice none 0 0, .slice none 0 0] 25))) := by rw [hrb]; exact HR0.out
 clear hs hb1 hs1 hw
 by_cases hE : allE l = 0
 case neg =>
  have HR : Hid (r = (⟨[], []⟩, allE l)) := by show _ = _; rw [hr]; unfold ofE; rw [if_pos hE]
  have d0 : (allE l != 0) = true := by simpa using hE
  obtain ⟨x, hx⟩ : ∃ x, x = allE l := ⟨_, rfl⟩
  obtain ⟨u, hu⟩ : ∃ u, u = usesE l := ⟨_, rfl⟩
  rw [← hx] at HR d0 HU
  rw [← hu] at HU
  clear hr hE hx hu HT
  go_enter Tryz.func17, Tryz.ntmps17
  go_upto_region 3 with ((go_at_call 39; refine HU.out.mono ?_; rintro e w1 ⟨rfl, hb1⟩))
  rw [← hrb]
  refine abs_world (Q := fun W => Code.wp _ _ _ _ W) (F := fun W => RbA w rb W) _ (HR0.out.to hb1) ?_
  clear hb1 HU HR0 hrb
  intro W h
  have r0 := h.r0
  have r1 := h.r1
  have rf := h.fz
  have HL := Lib.hid (h.lay (.slice none 0 0) (.slice none 0 0))
  clear h
  go_wp2
  (try simp only [Exit.inBlock, Exit.then])
  refine of_close HL.out.1 HL.out.2.1 ?_ ?_ (ShPost.none HR.out HL.out.2.2.1) <;> rfl
 case pos =>
 obtain ⟨hl200, hok, hsu, hsm⟩ := all_zero hE
 have hue : usesE l = sumU l := by unfold usesE; rw [if_pos hE]
 rw [hE, hue] at HU
 obtain ⟨su, hsue⟩ : ∃ su, su = sumU l := ⟨_, rfl⟩
 rw [← hsue] at HU
 have HBk : Hid (l.any kindB = true → r = (⟨[], []⟩, 2)) := fun h => by rw [hr]; unfold ofE; rw [if_neg (by rw [hE]; simp), if_pos h]
 have HMa : Hid (l.any kindB = false → 40 < su → r = (⟨[], []⟩, 4)) := fun h h2 => by rw [hr]; unfold ofE; rw [if_neg (by rw [hE]; simp), if_neg (by rw [h]; simp), if_pos (by rw [← hsue]; exact h2)]
 have HFa : Hid (l.any kindB = false → su ≤ 40 → farB (runO l l.length).to_ = true → r = (⟨[], []⟩, 16)) := fun h h2 h3 => by rw [hr]; unfold ofE; rw [if_neg (by rw [hE]; simp), if_neg (by rw [h]; simp), if_neg (by rw [← hsue]; omega), if_pos h3]
 have HOk : Hid (l.any kindB = false → su ≤ 40 → farB (runO l l.length).to_ = false → r = (⟨(runO l l.length).to_, sortP (runO l l.length).fr⟩, 0)) := fun h h2 h3 => by rw [hr]; unfold ofE; rw [if_neg (by rw [hE]; simp), if_neg (by rw [h]; simp), if_neg (by rw [← hsue]; omega), if_neg (by rw [h3]; simp)]
 have HKs := Lib.hid hok
 clear hr hE hue hsm hok hsu hsue
 go_enter Tryz.func17, Tryz.ntmps17
 go_upto_region 4 with ((go_at_call 39; refine HU.out.mono ?_; rintro e w1 ⟨rfl, hb1⟩))
 rw [← hrb]
 refine abs_world (Q := fun W => Code.wp _ _ _ _ W) (F := fun W => RbA w rb W ∧ SlT W W.heap.size A l) _ ⟨HR0.out.to hb1, (HT.out.below hb1).more hb1.size⟩ ?_
 clear hb1 HU HR0 HT hrb
 rintro W0 ⟨hr0, ht0⟩
 have HXs : Hid (∀ W, Below W0.heap.size W0 W → RbA w rb W ∧ SlT W W.heap.size A l) := fun W hb => ⟨hr0.to hb, (ht0.below hb).more hb.size⟩
 clear hr0 ht0
 go_wp2
 go_loopw [32] (fun s32 wr => ∃ k : Nat, k ≤ l.length ∧ s32 = .int .i64 (k : Int) ∧ Hid (∀ j (x : Stc), j < k → l[j]? = some x → kindB x = false) ∧ Hid (Below W0.heap.size W0 wr)) (fun s32 _ => l.length - (intOf s32).toNat)
 case atStart => exact ⟨0, Nat.zero_le _, rfl, (fun j x h => absurd h (Nat.not_lt_zero j)), Below.refl _ _⟩
 case round =>
  obtain ⟨k, hk, rfl, HN, HB⟩ := hrel
  obtain ⟨W, hW⟩ : ∃ x : World, x = wr := ⟨_, rfl⟩
  rw [← hW] at HB ⊢
  clear hW
  by_cases hlt : k < l.length
  case pos =>
   obtain ⟨b, off, x, hA, -, hx, hc0, hc1, hc2, hc3⟩ := (HXs.out W HB.out).2.at_ hlt
   have HBx := Lib.hid (show kindB x = (decide (x.kind = 5) || decide (9 ≤ x.kind)) from rfl)
   have HX := Lib.hid hx
   have HAl := Lib.hid (HB.out.trans ((al_t W (.cells #[.int .u8 x.kind, .bool x.purl, .int .i64 x.a, .int .i64 x.b] 96)).mono HB.out.size))
   have hRb := (HXs.out _ HAl.out).1
   have r0 := hRb.r0
   have r1 := hRb.r1
   have rf := hRb.fz
   have HL := Lib.hid (hRb.lay (.slice none 0 0) (.slice none 0 0))
   obtain ⟨kind, purl, sa, sb⟩ := x
   simp only at hc0 hc1 hc2 hc3 r0 r1 rf
   have HBx2 : Hid (kindB ⟨kind, purl, sa, sb⟩ = (decide (kind = 5) || decide (9 ≤ kind))) := HBx.out
   subst hA
   clear hx HBx hRb
   by_cases h5 : kind = 5
   case pos =>
    have HR := Lib.hid (HBk.out (List.any_eq_true.2 ⟨_, List.mem_of_getElem? HX.out, by rw [HBx2.out, decide_eq_true h5]; rfl⟩))
    have d5 : (kind == 5) = true := by simpa using h5
    clear HBx2 h5
    go_wp2
    (try simp only [Exit.inBlock, Exit.then])
    refine of_close HL.out.1 HL.out.2.1 ?_ ?_ (ShPost.none HR.out HL.out.2.2.1) <;> rfl
   case neg =>
    have d5 : (kind == 5) = false := by simpa using h5
    by_cases h9 : 9 ≤ kind
    case pos =>
     have HR := Lib.hid (HBk.out (List.any_eq_true.2 ⟨_, List.mem_of_getElem? HX.out, by rw [HBx2.out, decide_eq_true h9]; simp⟩))
     have d9 : decide (9 ≤ kind) = true := decide_eq_true h9
     clear HBx2 h5 h9
     go_wp2
     (try simp only [Exit.inBlock, Exit.then])
     refine of_close HL.out.1 HL.out.2.1 ?_ ?_ (ShPost.none HR.out HL.out.2.2.1) <;> rfl
    case neg =>
     have d9 : decide (9 ≤ kind) = false := decide_eq_false h9
     have HN2 : Hid (∀ j (x : Stc), j < k + 1 → l[j]? = some x → kindB x = false) := fun j y hj hy => by
      by_cases e : j = k
      · subst e
        rw [HX.out] at hy
        cases hy
        rw [HBx2.out, decide_eq_false h5, decide_eq_false h9]; rfl
      · exact HN.out j y (by omega) hy
     clear HBx2 h5 h9 HL r0 r1 rf
     go_wp2
     go_roundw
     case rel => exact ⟨k + 1, by omega, by go_num, HN2.out, HAl.out⟩
     case measure => simp [intOf]; omega
  case neg =>
   obtain rfl : k = l.length := by omega
   have hany : l.any kindB = false := by
    rw [List.any_eq_false]
    intro x hx
    obtain ⟨j, hj⟩ := List.mem_iff_getElem?.1 hx
    rw [HN.out j x (List.getElem?_eq_some_iff.1 hj).1 hj]; simp
   have HCk : Hid (∀ s ∈ l, CellOk s) := fun s hs => cell_ok (HKs.out s hs) (by rw [List.any_eq_false] at hany; simpa using hany s hs)
   have HMa2 := Lib.hid (HMa.out hany)
   have HFa2 := Lib.hid (HFa.out hany)
   have HOk2 := Lib.hid (HOk.out hany)
   have hRb := (HXs.out W HB.out).1
   clear HN HBk HMa HFa HOk hany HKs hlt hk
   by_cases h40 : su ≤ 40
   case neg =>
    have HR := Lib.hid (HMa2.out (by omega))
    have d40 : decide ((40 : Int) < su) = true := decide_eq_true (by omega)
    have r0 := hRb.r0
    have r1 := hRb.r1
    have rf := hRb.fz
    have HL := Lib.hid (hRb.lay (.slice none 0 0) (.slice none 0 0))
    clear hRb h40
    go_wp2
    (try simp only [Exit.inBlock, Exit.then])
    refine of_close HL.out.1 HL.out.2.1 ?_ ?_ (ShPost.none HR.out HL.out.2.2.1) <;> rfl
   case pos =>
    have d40 : decide ((40 : Int) < su) = false := decide_eq_false (by omega)
    have HFa3 := Lib.hid (HFa2.out h40)
    have HOk3 := Lib.hid (HOk2.out h40)
    have HLn := Lib.hid (fun k hk => runO_len HCk.out k hk)
    clear hRb HMa2 HFa2 HOk2 h40
    obtain ⟨sb, hsb⟩ : ∃ sb, sb = W.heap.size := ⟨_, rfl⟩
    have HO0 : Hid (OfA W sb (runO l 0).to_ (runO l 0).fr (.slice none 0 0) (.slice none 0 0) [] (W.alloc (.cells #[.slice none 0 0, .slice none 0 0] 25))) := by
     have hal := al_t W (.cells #[.slice none 0 0, .slice none 0 0] 25)
     rw [hsb]
     exact ⟨((Owns.nil.none 48 2).none 3 1).add hal (Nat.le_refl _) (box_new W 25 [.slice none 0 0, .slice none 0 0] rfl), hal⟩
    go_upto_region 13 with fail
    rw [← hsb]
    refine abs_world (Q := fun W' => Code.wp _ _ _ _ W') (F := fun W' => OfA W sb (runO l 0).to_ (runO l 0).fr (.slice none 0 0) (.slice none 0 0) [] W') _ HO0.out ?_
    have HYs : Hid (∀ W', Below W.heap.size W W' → RbA w rb W' ∧ SlT W' W'.heap.size A l) := fun W' hb => HXs.out W' (HB.out.trans (hb.mono HB.out.size))
    obtain ⟨W1, hW1⟩ : ∃ x : World, x = W := ⟨_, rfl⟩
    rw [← hW1] at HYs ⊢
    clear HO0 hsb HXs HB hW1
    intro W2 h2
    have H2 := Lib.hid h2
    clear h2
    go_wp2
    go_loopw [9, 51] (fun s9 s51 wr => ∃ k : Nat, k ≤ l.length ∧ s51 = .int .i64 (k : Int) ∧ s9 = .int .i64 (((runO l k).nd : Nat) : Int) ∧ Hid (∃ vt vf, OfA W1 sb (runO l k).to_ (runO l k).fr vt vf [] wr)) (fun _ s51 _ => l.length - (intOf s51).toNat)
    case atStart => exact ⟨0, Nat.zero_le _, rfl, rfl, _, _, H2.out⟩
    case round =>
     obtain ⟨k, hk, rfl, rfl, HO⟩ := hrel
     clear H2
     obtain ⟨W, hW⟩ : ∃ x : World, x = wr := ⟨_, rfl⟩
     rw [← hW] at HO ⊢
     clear hW
     obtain ⟨ln1, ln2, ln3⟩ := HLn.out k hk
     obtain ⟨vt, vf, hO⟩ := HO.out
     clear HO
     by_cases hlt : k < l.length
     case pos =>
      obtain ⟨b, off, x, hA, -, hx, hc0, hc1, hc2, hc3⟩ := (HYs.out W hO.lo).2.at_ hlt
      have hC := HCk.out x (List.mem_of_getElem? hx)
      have HNx := Lib.hid (runO_next hx)
      have HBd := Lib.hid (hO.boxed x)
      have htl : (runO l k).to_.length ≤ 41200 := by
       have := sum_rng (f := usesS) (l := l.take k) (fun s hs => by
        have h1 := (HCk.out s (List.mem_of_mem_take hs)).uses
        have h2 := (HCk.out s (List.mem_of_mem_take hs)).small.1
        omega)
       rw [List.length_take] at this
       unfold sumU at ln2
       omega
      have hnd : (runO l k).nd ≤ 2400 := by omega
      have hfr : (runO l k).fr.length ≤ 28800 := by omega
      obtain ⟨⟨nd, T, R⟩, hT⟩ : ∃ T, T = runO l k := ⟨_, rfl⟩
      rw [← hT] at HNx HBd htl hnd hfr ⊢
      simp only at HBd htl hnd hfr ⊢
      obtain ⟨kind, purl, sa, sb2⟩ := x
      simp only at hc0 hc1 hc2 hc3
      have hcell := hO.cell.1
      rw [← hT] at hO
      obtain ⟨⟨at0, ct0, hvt⟩, -⟩ := hO.forms
      simp only at hvt
      subst hvt
      have q0 := cell_al hcell (.cells #[.int .u8 kind, .bool purl, .int .i64 sa, .int .i64 sb2] 96)
      subst hA
      clear hcell hO hT ln1 ln2 ln3
      go_upto_region 18 with fail
      refine abs_world (Q := fun W' => Code.wp _ _ _ _ W') (F := fun W' => ∃ vt, OfA W1 sb T R vt vf [stO W.heap.size ⟨kind, purl, sa, sb2⟩] W') _ ⟨_, HBd.out⟩ ?_
      obtain ⟨cb, hcb⟩ : ∃ cb, cb = W.heap.size := ⟨_, rfl⟩
      rw [← hcb]
      clear HBd q0 hcb hc0 hc1 hc2 hc3 hx
      rintro W3 ⟨vt3, h3⟩
      obtain ⟨p0, p1, p2, p3⟩ := stO_at (h3.own.all (stO cb ⟨kind, purl, sa, sb2⟩) (by simp))
      simp only at p0 p1 p2 p3
      obtain ⟨⟨at_, ct, rfl⟩, ⟨af, cf, rfl⟩⟩ := h3.forms
      have q0 := h3.cell.1
      have q1 := h3.cell.2.1
      have H3 := Lib.hid h3
      have hkd := hC.kind
      obtain ⟨rg1, rg2⟩ := hC.rng
      simp only at hkd rg1 rg2
      have HC := Lib.hid hC
      obtain ⟨at0, hat⟩ : ∃ at0, at0 = T.length := ⟨_, rfl⟩
      rw [← hat] at htl ⊢
      have HAt := Lib.hid hat
      clear h3 hC hat
      rcases hkd with rfl | rfl | rfl | rfl | rfl | rfl | rfl
      · have hk0 := HNx.out
        have hN : Hid (runO l (k + 1) = ⟨nd + 1, T ++ [(nd : Int)], R⟩) := by
         show _ = _
         rw [hk0]
         unfold stepO ofG ofM toI frI toF
         simp [prsI, kF]
        obtain ⟨A9, k9, v9, hr9, g0, g1, hO9⟩ := H3.out.pushTo (by have := HAt.out; omega) (nd : Int)
        have HO9 : Hid (OfA W1 sb (runO l (k + 1)).to_ (runO l (k + 1)).fr (.slice A9 (T.length + 1) k9) (.slice af R.length cf) [] (v9.setCell ⟨sb, 0, none⟩ (.slice A9 (T.length + 1) k9))) := by
         show OfA _ _ _ _ _ _ _ _
         rw [hN.out]
         exact hO9.sub (List.nil_sublist _)
        have HNd : Hid (nd + 1 = (runO l (k + 1)).nd) := by show _ = _; rw [hN.out]
        have g1' := g1 0
        clear hk0 hO9 hN HNx rg1 rg2 g1 H3
        go_wp2_with (at_builtin; refine wpList_append_run _ rfl _ _ _ _ rfl _ _ (by rfl) (by rfl) hr9 ?_)
        go_roundw
        case rel => exact ⟨k + 1, by omega, by go_num, by rw [← HNd.out]; go_num, _, _, HO9.out⟩
        case measure => simp [intOf]; omega
      · have hk0 := HNx.out
        have hN : Hid (runO l (k + 1) = ⟨nd + 1, T, R⟩) := by
         show _ = _
         rw [hk0]
         unfold stepO ofG ofM toI frI
         simp
        have HO9 : Hid (OfA W1 sb (runO l (k + 1)).to_ (runO l (k + 1)).fr (.slice at_ T.length ct) (.slice af R.length cf) [] W3) := by
         show OfA _ _ _ _ _ _ _ _
         rw [hN.out]
         exact H3.out.sub (List.nil_sublist _)
        have HNd : Hid (nd + 1 = (runO l (k + 1)).nd) := by show _ = _; rw [hN.out]
        clear hk0 hN HNx rg1 rg2 H3
        go_wp2
        go_roundw
        case rel => exact ⟨k + 1, by omega, by go_num, by rw [← HNd.out]; go_num, _, _, HO9.out⟩
        case measure => simp [intOf]; omega
      · have hrg := rg1 (by omega)
        obtain ⟨m, rfl⟩ : ∃ m : Nat, sa = (m : Int) := ⟨sa.toNat, by omega⟩
        obtain ⟨S, hS⟩ : ∃ S : Stc, S = ⟨3, purl, (m : Int), sb2⟩ := ⟨_, rfl⟩
        have HM : Hid (ofM S = m ∧ ofG S = 1) := by rw [hS]; unfold ofM ofG; exact ⟨by simp, by simp⟩
        have HTo : Hid (∀ i, toF S nd i = (nd : Int)) := fun i => by rw [hS]; unfold toF; simp
        have HKf : Hid (∀ i, kF S i = i) := fun i => by rw [hS]; unfold kF; simp
        have HSa : Hid (S.kind = 3 ∧ S.a = (m : Int)) := by rw [hS]; exact ⟨rfl, rfl⟩
        have hm12 : m ≤ 12 := by omega
        have HPr : Hid (∀ i k : Nat, prI S at0 i k = ((at0 : Int) + (k : Int), (at0 : Int) + (i : Int))) := fun i k => by rw [hS]; unfold prI swP swF; simp
        have HS0 : Hid (∃ vt vf, OfA W1 sb (T ++ toI S nd 0) (R ++ frI S at0 0) vt vf [stO cb S] W3) := ⟨_, _, by rw [show toI S nd 0 = [] from rfl, show frI S at0 0 = [] from rfl, List.append_nil, List.append_nil, hS]; exact H3.out⟩
        have HFl : Hid (∀ i, i ≤ m → (frI S at0 i).length ≤ 12 * i) := fun i hi => frI_len (by rw [hS]; exact HC.out) at0 i (by rw [HM.out.1]; exact hi)
        have HNx2 : Hid (runO l (k + 1) = stepO ⟨nd, T, R⟩ S) := by show _ = _; rw [HNx.out, hS]
        clear H3 rg1 rg2 hS HNx
        go_wp2
        clear q0 q1 p0 p1 p2 p3
        go_loopw [77] (fun si wr => ∃ i : Nat, i ≤ m ∧ si = .int .i64 (i : Int) ∧ Hid (∃ vt vf, OfA W1 sb (T ++ toI S nd i) (R ++ frI S at0 i) vt vf [stO cb S] wr)) (fun si _ => m - (intOf si).toNat)
        case atStart => exact ⟨0, Nat.zero_le _, rfl, HS0.out⟩
        case round =>
         obtain ⟨i, hi, rfl, HO⟩ := hrel
         clear HS0
         obtain ⟨W, hW⟩ : ∃ x : World, x = wr := ⟨_, rfl⟩
         rw [← hW] at HO ⊢
         clear hW
         obtain ⟨vt, vf, hO⟩ := HO.out
         clear HO
         have hfl := HFl.out i hi
         by_cases hlt : i < m
         case pos =>
          obtain ⟨⟨a2, c2, hvt⟩, ⟨a3, c3, hvf⟩⟩ := hO.forms
          obtain ⟨s0, s1, s2, s3⟩ := stO_at (hO.own.all (stO cb S) (by simp))
          have HTn : Hid (T ++ toI S nd (i + 1) = (T ++ toI S nd i) ++ [toF S nd i]) := by show _ = _; rw [toI_next, List.append_assoc]
          have ht2 : (T ++ toI S nd i).length ≤ 42000 := by rw [List.length_append, toI_len]; have := HAt.out; omega
          have hf2 : (R ++ frI S at0 i).length ≤ 30000 := by rw [List.length_append]; omega
          have HFn : Hid (R ++ frI S at0 (i + 1) = (R ++ frI S at0 i) ++ prsI S at0 i (kF S i)) := by show _ = _; rw [frI_next, List.append_assoc]
          obtain ⟨T2, hT2⟩ : ∃ T2, T2 = T ++ toI S nd i := ⟨_, rfl⟩
          obtain ⟨R2, hR2⟩ : ∃ R2, R2 = R ++ frI S at0 i := ⟨_, rfl⟩
          rw [← hT2] at hO hvt HTn ht2
          rw [← hR2] at hO hvf HFn hf2
          subst hvt hvf
          clear hT2 hR2 hfl
          obtain ⟨A9, k9, v9, hr9, g0, g1, hO9⟩ := hO.pushTo (by omega) (nd : Int)
          have HO9 : Hid (∃ vt, OfA W1 sb (T ++ toI S nd (i + 1)) R2 vt (.slice a3 R2.length c3) [stO cb S] (v9.setCell ⟨sb, 0, none⟩ (.slice A9 (T2.length + 1) k9))) := ⟨_, by rw [HTn.out, HTo.out]; exact hO9⟩
          have q0 := hO.cell.1
          have g1' := g1 0
          clear hO9 hO g1 HTn s0 s1 s2 s3
          go_upto_region 29 with (at_builtin; refine wpList_append_run _ rfl _ _ _ _ rfl _ _ (by rfl) (by rfl) hr9 ?_)
          refine abs_world (Q := fun W' => Code.wp _ _ _ _ W') (F := fun W' => ∃ vt, OfA W1 sb (T ++ toI S nd (i + 1)) R2 vt (.slice a3 R2.length c3) [stO cb S] W') _ HO9.out ?_
          clear HO9 hr9 g0 g1' q0
          rintro W5 ⟨vt5, h5⟩
          have H5 : Hid (∃ vt vf, OfA W1 sb (T ++ toI S nd (i + 1)) (R2 ++ prsI S at0 i 0) vt vf [stO cb S] W5) := ⟨_, _, by rw [show prsI S at0 i 0 = [] from rfl, List.append_nil]; exact h5⟩
          clear h5
          go_wp2
          go_loopw [87] (fun sk wr => ∃ k2 : Nat, k2 ≤ kF S i ∧ sk = .int .i64 (k2 : Int) ∧ Hid (∃ vt vf, OfA W1 sb (T ++ toI S nd (i + 1)) (R2 ++ prsI S at0 i k2) vt vf [stO cb S] wr)) (fun sk _ => kF S i - (intOf sk).toNat)
          case atStart => exact ⟨0, Nat.zero_le _, rfl, H5.out⟩
          case round =>
           obtain ⟨k2, hk2, rfl, HO2⟩ := hrel
           clear H5
           obtain ⟨W, hW⟩ : ∃ x : World, x = wr := ⟨_, rfl⟩
           rw [← hW] at HO2 ⊢
           clear hW
           obtain ⟨vt6, vf6, hO6⟩ := HO2.out
           clear HO2
           have hki := HKf.out i
           rw [hki] at hk2
           obtain ⟨s0, s1, s2, s3⟩ := stO_at (hO6.own.all (stO cb S) (by simp))
           rw [HSa.out.1] at s0
           by_cases hlt2 : k2 < i
           case pos =>
            skip
            have hPn : R2 ++ prsI S at0 i (k2 + 1) = (R2 ++ prsI S at0 i k2) ++ [prI S at0 i k2] := by rw [prsI_next, List.append_assoc]
            have hr2l : (R2 ++ prsI S at0 i k2).length ≤ 31000 := by rw [List.length_append, prsI_len]; omega
            have HPn : Hid (R2 ++ prsI S at0 i (k2 + 1) = (R2 ++ prsI S at0 i k2) ++ [((at0 : Int) + (k2 : Int), (at0 : Int) + (i : Int))]) := by show _ = _; rw [hPn, HPr.out]
            obtain ⟨R3, hR3⟩ : ∃ R3, R3 = R2 ++ prsI S at0 i k2 := ⟨_, rfl⟩
            rw [← hR3] at hO6 HPn hr2l
            obtain ⟨-, ⟨a6, c6, rfl⟩⟩ := hO6.forms
            have HO6 := Lib.hid hO6
            obtain ⟨x, hx⟩ : ∃ x : Int, x = (at0 : Int) + (k2 : Int) := ⟨_, rfl⟩
            obtain ⟨y, hy⟩ : ∃ y : Int, y = (at0 : Int) + (i : Int) := ⟨_, rfl⟩
            have HXy : Hid (x = (at0 : Int) + (k2 : Int) ∧ y = (at0 : Int) + (i : Int)) := ⟨hx, hy⟩
            have hwx : IntKind.i64.wrap ((at0 : Int) + (k2 : Int)) = x := (IntWalk.i64_in _ (by omega)).trans hx.symm
            have hwy : IntKind.i64.wrap ((at0 : Int) + (i : Int)) = y := (IntWalk.i64_in _ (by omega)).trans hy.symm
            rw [← hx, ← hy] at HPn
            have s0a := cell_al s0 (.cells #[.int .i64 x, .int .i64 y] 48)
            clear hPn hO6 hR3 hx hy hki
            have HPw : Hid (OfA W1 sb (T ++ toI S nd (i + 1)) R3 vt6 (.slice a6 R3.length c6) [stO cb S] (W.alloc (.cells #[.int .i64 x, .int .i64 y] 48)) ∧ (W.alloc (.cells #[.int .i64 x, .int .i64 y] 48)).cell? ⟨W.heap.size, 0, none⟩ = some (.int .i64 x) ∧ (W.alloc (.cells #[.int .i64 x, .int .i64 y] 48)).cell? ⟨W.heap.size, 1, none⟩ = some (.int .i64 y)) := ⟨HO6.out.to (al_t _ _), cell_new rfl rfl rfl, cell_new rfl rfl rfl⟩
            clear HO6
            go_upto_region 35 with fail
            refine abs_world (Q := fun W' => Code.wp _ _ _ _ W') (F := fun W' => OfA W1 sb (T ++ toI S nd (i + 1)) R3 vt6 (.slice a6 R3.length c6) [stO cb S] W' ∧ W'.cell? ⟨W.heap.size, 0, none⟩ = some (.int .i64 x) ∧ W'.cell? ⟨W.heap.size, 1, none⟩ = some (.int .i64 y)) _ HPw.out ?_
            clear HPw hwx hwy s0a s0 s1 s2 s3
            rintro W7 ⟨h7, t0, t1⟩
            have q1 := h7.cell.2.1
            obtain ⟨A9, k9, v9, hr9, g0, g1, hO9⟩ := h7.pushFr (by omega) (x, y)
            have HO9 : Hid (∃ vt vf, OfA W1 sb (T ++ toI S nd (i + 1)) (R2 ++ prsI S at0 i (k2 + 1)) vt vf [stO cb S] (v9.setCell ⟨sb, 1, none⟩ (.slice A9 (R3.length + 1) k9))) := ⟨_, _, by rw [HPn.out]; exact hO9⟩
            have hr : (Builtin.append_ #[23, 23] 23 #[.slice a6 R3.length c6, .slice (some ⟨W7.heap.size, 0, none⟩) 1 1]).run Tryz.prog (W7.alloc (.cells #[.int .i64 x, .int .i64 y] 48)) = .ok (.slice A9 (R3.length + 1) k9) v9 := hr9
            have g1' := g1 1
            have HKi : Hid (k2 + 1 ≤ kF S i) := by show _ ≤ _; rw [HKf.out]; omega
            have HMs : Hid (kF S i - (k2 + 1) < kF S i - k2) := by have h := HKi.out; show _ < _; have h2 : k2 + 1 ≤ kF S i := h; omega
            clear h7 hO9 hr9 g1 HPn
            go_wp2_with (at_builtin; refine wpList_append_run _ rfl _ _ _ _ rfl _ _ (by rfl) (by rfl) hr ?_)
            go_roundw
            case rel => exact ⟨k2 + 1, HKi.out, by go_num, HO9.out⟩
            case measure =>
             have h := HMs.out
             simp only [intOf]
             omega
           case neg =>
            have hke : k2 = kF S i := by rw [hki]; omega
            have HO9 : Hid (∃ vt vf, OfA W1 sb (T ++ toI S nd (i + 1)) (R ++ frI S at0 (i + 1)) vt vf [stO cb S] W) := ⟨_, _, by rw [HFn.out, ← hke]; exact hO6⟩
            obtain rfl : i = k2 := by rw [hki] at hke; exact hke.symm
            clear hO6 hke hki s1 s3
            go_wp2
            go_roundw
            case rel => exact ⟨i + 1, by omega, by go_num, HO9.out⟩
            case measure => simp [intOf]; omega
         case neg =>
          obtain rfl : i = m := by omega
          have hN : Hid (runO l (k + 1) = ⟨nd + 1, T ++ toI S nd i, R ++ frI S at0 i⟩) := by
           show _ = _
           rw [HNx2.out]
           unfold stepO
           rw [HM.out.1, HM.out.2, ← HAt.out]
          have HO9 : Hid (∃ vt vf, OfA W1 sb (runO l (k + 1)).to_ (runO l (k + 1)).fr vt vf [] W) := ⟨_, _, by rw [hN.out]; exact hO.sub (List.nil_sublist _)⟩
          have HNd : Hid (nd + 1 = (runO l (k + 1)).nd) := by show _ = _; rw [hN.out]
          clear hO hN HNx2 hfl hlt hi
          go_wp2
          go_roundw
          case rel => exact ⟨k + 1, by omega, by go_num, by rw [← HNd.out]; go_num, HO9.out⟩
          case measure => simp [intOf]; omega
      · have hrg := rg1 (by omega)
        obtain ⟨m, rfl⟩ : ∃ m : Nat, sa = (m : Int) := ⟨sa.toNat, by omega⟩
        obtain ⟨S, hS⟩ : ∃ S : Stc, S = ⟨4, purl, (m : Int), sb2⟩ := ⟨_, rfl⟩
        have HM : Hid (ofM S = m ∧ ofG S = 1) := by rw [hS]; unfold ofM ofG; exact ⟨by simp, by simp⟩
        have HTo : Hid (∀ i, toF S nd i = (nd : Int)) := fun i => by rw [hS]; unfold toF; simp
        have HKf : Hid (∀ i, kF S i = i) := fun i => by rw [hS]; unfold kF; simp
        have HSa : Hid (S.kind = 4 ∧ S.a = (m : Int)) := by rw [hS]; exact ⟨rfl, rfl⟩
        have hm12 : m ≤ 12 := by omega
        have HPr : Hid (∀ i k : Nat, prI S at0 i k = ((at0 : Int) + (i : Int), (at0 : Int) + (k : Int))) := fun i k => by rw [hS]; unfold prI swP swF; simp
        have HS0 : Hid (∃ vt vf, OfA W1 sb (T ++ toI S nd 0) (R ++ frI S at0 0) vt vf [stO cb S] W3) := ⟨_, _, by rw [show toI S nd 0 = [] from rfl, show frI S at0 0 = [] from rfl, List.append_nil, List.append_nil, hS]; exact H3.out⟩
        have HFl : Hid (∀ i, i ≤ m → (frI S at0 i).length ≤ 12 * i) := fun i hi => frI_len (by rw [hS]; exact HC.out) at0 i (by rw [HM.out.1]; exact hi)
        have HNx2 : Hid (runO l (k + 1) = stepO ⟨nd, T, R⟩ S) := by show _ = _; rw [HNx.out, hS]
        clear H3 rg1 rg2 hS HNx
        go_wp2
        clear q0 q1 p0 p1 p2 p3
        go_loopw [77] (fun si wr => ∃ i : Nat, i ≤ m ∧ si = .int .i64 (i : Int) ∧ Hid (∃ vt vf, OfA W1 sb (T ++ toI S nd i) (R ++ frI S at0 i) vt vf [stO cb S] wr)) (fun si _ => m - (intOf si).toNat)
        case atStart => exact ⟨0, Nat.zero_le _, rfl, HS0.out⟩
        case round =>
         obtain ⟨i, hi, rfl, HO⟩ := hrel
         clear HS0
         obtain ⟨W, hW⟩ : ∃ x : World, x = wr := ⟨_, rfl⟩
         rw [← hW] at HO ⊢
         clear hW
         obtain ⟨vt, vf, hO⟩ := HO.out
         clear HO
         have hfl := HFl.out i hi
         by_cases hlt : i < m
         case pos =>
          obtain ⟨⟨a2, c2, hvt⟩, ⟨a3, c3, hvf⟩⟩ := hO.forms
          obtain ⟨s0, s1, s2, s3⟩ := stO_at (hO.own.all (stO cb S) (by simp))
          have HTn : Hid (T ++ toI S nd (i + 1) = (T ++ toI S nd i) ++ [toF S nd i]) := by show _ = _; rw [toI_next, List.append_assoc]
          have ht2 : (T ++ toI S nd i).length ≤ 42000 := by rw [List.length_append, toI_len]; have := HAt.out; omega
          have hf2 : (R ++ frI S at0 i).length ≤ 30000 := by rw [List.length_append]; omega
          have HFn : Hid (R ++ frI S at0 (i + 1) = (R ++ frI S at0 i) ++ prsI S at0 i (kF S i)) := by show _ = _; rw [frI_next, List.append_assoc]
          obtain ⟨T2, hT2⟩ : ∃ T2, T2 = T ++ toI S nd i := ⟨_, rfl⟩
          obtain ⟨R2, hR2⟩ : ∃ R2, R2 = R ++ frI S at0 i := ⟨_, rfl⟩
          rw [← hT2] at hO hvt HTn ht2
          rw [← hR2] at hO hvf HFn hf2
          subst hvt hvf
          clear hT2 hR2 hfl
          obtain ⟨A9, k9, v9, hr9, g0, g1, hO9⟩ := hO.pushTo (by omega) (nd : Int)
          have HO9 : Hid (∃ vt, OfA W1 sb (T ++ toI S nd (i + 1)) R2 vt (.slice a3 R2.length c3) [stO cb S] (v9.setCell ⟨sb, 0, none⟩ (.slice A9 (T2.length + 1) k9))) := ⟨_, by rw [HTn.out, HTo.out]; exact hO9⟩
          have q0 := hO.cell.1
          have g1' := g1 0
          clear hO9 hO g1 HTn s0 s1 s2 s3
          go_upto_region 29 with (at_builtin; refine wpList_append_run _ rfl _ _ _ _ rfl _ _ (by rfl) (by rfl) hr9 ?_)
          refine abs_world (Q := fun W' => Code.wp _ _ _ _ W') (F := fun W' => ∃ vt, OfA W1 sb (T ++ toI S nd (i + 1)) R2 vt (.slice a3 R2.length c3) [stO cb S] W') _ HO9.out ?_
          clear HO9 hr9 g0 g1' q0
          rintro W5 ⟨vt5, h5⟩
          have H5 : Hid (∃ vt vf, OfA W1 sb (T ++ toI S nd (i + 1)) (R2 ++ prsI S at0 i 0) vt vf [stO cb S] W5) := ⟨_, _, by rw [show prsI S at0 i 0 = [] from rfl, List.append_nil]; exact h5⟩
          clear h5
          go_wp2
          go_loopw [87] (fun sk wr => ∃ k2 : Nat, k2 ≤ kF S i ∧ sk = .int .i64 (k2 : Int) ∧ Hid (∃ vt vf, OfA W1 sb (T ++ toI S nd (i + 1)) (R2 ++ prsI S at0 i k2) vt vf [stO cb S] wr)) (fun sk _ => kF S i - (intOf sk).toNat)
          case atStart => exact ⟨0, Nat.zero_le _, rfl, H5.out⟩
          case round =>
           obtain ⟨k2, hk2, rfl, HO2⟩ := hrel
           clear H5
           obtain ⟨W, hW⟩ : ∃ x : World, x = wr := ⟨_, rfl⟩
           rw [← hW] at HO2 ⊢
           clear hW
           obtain ⟨vt6, vf6, hO6⟩ := HO2.out
           clear HO2
           have hki := HKf.out i
           rw [hki] at hk2
           obtain ⟨s0, s1, s2, s3⟩ := stO_at (hO6.own.all (stO cb S) (by simp))
           rw [HSa.out.1] at s0
           by_cases hlt2 : k2 < i
           case pos =>
            skip
            have hPn : R2 ++ prsI S at0 i (k2 + 1) = (R2 ++ prsI S at0 i k2) ++ [prI S at0 i k2] := by rw [prsI_next, List.append_assoc]
            have hr2l : (R2 ++ prsI S at0 i k2).length ≤ 31000 := by rw [List.length_append, prsI_len]; omega
            have HPn : Hid (R2 ++ prsI S at0 i (k2 + 1) = (R2 ++ prsI S at0 i k2) ++ [((at0 : Int) + (i : Int), (at0 : Int) + (k2 : Int))]) := by show _ = _; rw [hPn, HPr.out]
            obtain ⟨R3, hR3⟩ : ∃ R3, R3 = R2 ++ prsI S at0 i k2 := ⟨_, rfl⟩
            rw [← hR3] at hO6 HPn hr2l
            obtain ⟨-, ⟨a6, c6, rfl⟩⟩ := hO6.forms
            have HO6 := Lib.hid hO6
            obtain ⟨x, hx⟩ : ∃ x : Int, x = (at0 : Int) + (k2 : Int) := ⟨_, rfl⟩
            obtain ⟨y, hy⟩ : ∃ y : Int, y = (at0 : Int) + (i : Int) := ⟨_, rfl⟩
            have HXy : Hid (x = (at0 : Int) + (k2 : Int) ∧ y = (at0 : Int) + (i : Int)) := ⟨hx, hy⟩
            have hwx : IntKind.i64.wrap ((at0 : Int) + (k2 : Int)) = x := (IntWalk.i64_in _ (by omega)).trans hx.symm
            have hwy : IntKind.i64.wrap ((at0 : Int) + (i : Int)) = y := (IntWalk.i64_in _ (by omega)).trans hy.symm
            rw [← hx, ← hy] at HPn
            have s0a := cell_al s0 (.cells #[.int .i64 x, .int .i64 y] 48)
            clear hPn hO6 hR3 hx hy hki
            have HPw : Hid (OfA W1 sb (T ++ toI S nd (i + 1)) R3 vt6 (.slice a6 R3.length c6) [stO cb S] (W.alloc (.cells #[.int .i64 y, .int .i64 x] 48)) ∧ (W.alloc (.cells #[.int .i64 y, .int .i64 x] 48)).cell? ⟨W.heap.size, 0, none⟩ = some (.int .i64 y) ∧ (W.alloc (.cells #[.int .i64 y, .int .i64 x] 48)).cell? ⟨W.heap.size, 1, none⟩ = some (.int .i64 x)) := ⟨HO6.out.to (al_t _ _), cell_new rfl rfl rfl, cell_new rfl rfl rfl⟩
            clear HO6
            go_upto_region 35 with fail
            refine abs_world (Q := fun W' => Code.wp _ _ _ _ W') (F := fun W' => OfA W1 sb (T ++ toI S nd (i + 1)) R3 vt6 (.slice a6 R3.length c6) [stO cb S] W' ∧ W'.cell? ⟨W.heap.size, 0, none⟩ = some (.int .i64 y) ∧ W'.cell? ⟨W.heap.size, 1, none⟩ = some (.int .i64 x)) _ HPw.out ?_
            clear HPw hwx hwy s0a s0 s1 s2 s3
            rintro W7 ⟨h7, t0, t1⟩
            have q1 := h7.cell.2.1
            obtain ⟨A9, k9, v9, hr9, g0, g1, hO9⟩ := h7.pushFr (by omega) (y, x)
            have HO9 : Hid (∃ vt vf, OfA W1 sb (T ++ toI S nd (i + 1)) (R2 ++ prsI S at0 i (k2 + 1)) vt vf [stO cb S] (v9.setCell ⟨sb, 1, none⟩ (.slice A9 (R3.length + 1) k9))) := ⟨_, _, by rw [HPn.out]; exact hO9⟩
            have hr : (Builtin.append_ #[23, 23] 23 #[.slice a6 R3.length c6, .slice (some ⟨W7.heap.size, 0, none⟩) 1 1]).run Tryz.prog (W7.alloc (.cells #[.int .i64 y, .int .i64 x] 48)) = .ok (.slice A9 (R3.length + 1) k9) v9 := hr9
            have g1' := g1 1
            have HKi : Hid (k2 + 1 ≤ kF S i) := by show _ ≤ _; rw [HKf.out]; omega
            have HMs : Hid (kF S i - (k2 + 1) < kF S i - k2) := by have h := HKi.out; show _ < _; have h2 : k2 + 1 ≤ kF S i := h; omega
            clear h7 hO9 hr9 g1 HPn
            go_wp2_with (at_builtin; refine wpList_append_run _ rfl _ _ _ _ rfl _ _ (by rfl) (by rfl) hr ?_)
            go_roundw
            case rel => exact ⟨k2 + 1, HKi.out, by go_num, HO9.out⟩
            case measure =>
             have h := HMs.out
             simp only [intOf]
             omega
           case neg =>
            have hke : k2 = kF S i := by rw [hki]; omega
            have HO9 : Hid (∃ vt vf, OfA W1 sb (T ++ toI S nd (i + 1)) (R ++ frI S at0 (i + 1)) vt vf [stO cb S] W) := ⟨_, _, by rw [HFn.out, ← hke]; exact hO6⟩
            obtain rfl : i = k2 := by rw [hki] at hke; exact hke.symm
            clear hO6 hke hki s1 s3
            go_wp2
            go_roundw
            case rel => exact ⟨i + 1, by omega, by go_num, HO9.out⟩
            case measure => simp [intOf]; omega
         case neg =>
          obtain rfl : i = m := by omega
          have hN : Hid (runO l (k + 1) = ⟨nd + 1, T ++ toI S nd i, R ++ frI S at0 i⟩) := by
           show _ = _
           rw [HNx2.out]
           unfold stepO
           rw [HM.out.1, HM.out.2, ← HAt.out]
          have HO9 : Hid (∃ vt vf, OfA W1 sb (runO l (k + 1)).to_ (runO l (k + 1)).fr vt vf [] W) := ⟨_, _, by rw [hN.out]; exact hO.sub (List.nil_sublist _)⟩
          have HNd : Hid (nd + 1 = (runO l (k + 1)).nd) := by show _ = _; rw [hN.out]
          clear hO hN HNx2 hfl hlt hi
          go_wp2
          go_roundw
          case rel => exact ⟨k + 1, by omega, by go_num, by rw [← HNd.out]; go_num, HO9.out⟩
          case measure => simp [intOf]; omega
      · have hrg := rg2 (by omega)
        obtain ⟨p, rfl⟩ : ∃ p : Nat, sa = (p : Int) := ⟨sa.toNat, by omega⟩
        obtain ⟨q, rfl⟩ : ∃ q : Nat, sb2 = (q : Int) := ⟨sb2.toNat, by omega⟩
        obtain ⟨S, hS⟩ : ∃ S : Stc, S = ⟨6, purl, (p : Int), (q : Int)⟩ := ⟨_, rfl⟩
        obtain ⟨m, hm⟩ : ∃ m, m = p + q := ⟨_, rfl⟩
        have HPq : Hid (m = p + q) := hm
        have hmc : ((p : Int) + (q : Int)) = (m : Int) := by omega
        have HM : Hid (ofM S = m ∧ ofG S = m) := ⟨by rw [hS]; unfold ofM; simp; omega, by rw [hS]; unfold ofG; simp; omega⟩
        have HTo : Hid (∀ i, toF S nd i = (nd : Int) + ((i : Int) + (q : Int)) % (m : Int)) := fun i => by rw [hS, ← hmc]; unfold toF; simp
        have HKf : Hid (∀ i, kF S i = if p ≤ i then p else 0) := fun i => by rw [hS]; unfold kF; simp
        have HSa : Hid (S.kind = 6 ∧ S.a = (p : Int) ∧ S.b = (q : Int)) := by rw [hS]; exact ⟨rfl, rfl, rfl⟩
        have hp6 : 1 ≤ p ∧ p ≤ 6 ∧ 1 ≤ q ∧ q ≤ 6 := by omega
        have hm12 : m ≤ 12 := by omega
        have hwpq : IntKind.i64.wrap ((p : Int) + (q : Int)) = (m : Int) := (IntWalk.i64_in _ (by omega)).trans hmc
        have HW : Hid (IntKind.i64.wrap ((p : Int) + (q : Int)) = (m : Int)) := hwpq
        have HPr : Hid (∀ i k : Nat, prI S at0 i k = ((at0 : Int) + (k : Int), (at0 : Int) + (i : Int))) := fun i k => by rw [hS]; unfold prI swP swF; simp
        have HS0 : Hid (∃ vt vf, OfA W1 sb (T ++ toI S nd 0) (R ++ frI S at0 0) vt vf [stO cb S] W3) := ⟨_, _, by rw [show toI S nd 0 = [] from rfl, show frI S at0 0 = [] from rfl, List.append_nil, List.append_nil, hS]; exact H3.out⟩
        have HFl : Hid (∀ i, i ≤ m → (frI S at0 i).length ≤ 12 * i) := fun i hi => frI_len (by rw [hS]; exact HC.out) at0 i (by rw [HM.out.1]; exact hi)
        have HNx2 : Hid (runO l (k + 1) = stepO ⟨nd, T, R⟩ S) := by show _ = _; rw [HNx.out, hS]
        clear H3 rg1 rg2 hS HNx hm hrg
        go_wp2
        clear q0 q1 p0 p1 p2 p3 hwpq hmc
        go_loopw [124] (fun si wr => ∃ i : Nat, i ≤ m ∧ si = .int .i64 (i : Int) ∧ Hid (∃ vt vf, OfA W1 sb (T ++ toI S nd i) (R ++ frI S at0 i) vt vf [stO cb S] wr)) (fun si _ => m - (intOf si).toNat)
        case atStart => exact ⟨0, Nat.zero_le _, rfl, HS0.out⟩
        case round =>
         obtain ⟨i, hi, rfl, HO⟩ := hrel
         clear HS0
         obtain ⟨W, hW⟩ : ∃ x : World, x = wr := ⟨_, rfl⟩
         rw [← hW] at HO ⊢
         clear hW
         obtain ⟨vt, vf, hO⟩ := HO.out
         clear HO
         have hfl := HFl.out i hi
         by_cases hlt : i < m
         case pos =>
          obtain ⟨⟨a2, c2, hvt⟩, ⟨a3, c3, hvf⟩⟩ := hO.forms
          obtain ⟨s0, s1, s2, s3⟩ := stO_at (hO.own.all (stO cb S) (by simp))
          have HTn : Hid (T ++ toI S nd (i + 1) = (T ++ toI S nd i) ++ [toF S nd i]) := by show _ = _; rw [toI_next, List.append_assoc]
          have ht2 : (T ++ toI S nd i).length ≤ 42000 := by rw [List.length_append, toI_len]; have := HAt.out; omega
          have hf2 : (R ++ frI S at0 i).length ≤ 30000 := by rw [List.length_append]; omega
          have HFn : Hid (R ++ frI S at0 (i + 1) = (R ++ frI S at0 i) ++ prsI S at0 i (kF S i)) := by show _ = _; rw [frI_next, List.append_assoc]
          obtain ⟨T2, hT2⟩ : ∃ T2, T2 = T ++ toI S nd i := ⟨_, rfl⟩
          obtain ⟨R2, hR2⟩ : ∃ R2, R2 = R ++ frI S at0 i := ⟨_, rfl⟩
          rw [← hT2] at hO hvt HTn ht2
          rw [← hR2] at hO hvf HFn hf2
          subst hvt hvf
          clear hT2 hR2 hfl
          have hbd : Below W.heap.size W W.drew := Below.drew (Below.refl _ _)
          obtain ⟨rm, hrm⟩ : ∃ rm : Int, rm = ((i : Int) + (q : Int)) % (m : Int) := ⟨_, rfl⟩
          have hrm0 : 0 ≤ rm ∧ rm < 12 := by rw [hrm]; have h1 := Int.emod_nonneg ((i : Int) + (q : Int)) (show (m : Int) ≠ 0 by omega); have h2 := Int.emod_lt_of_pos ((i : Int) + (q : Int)) (show (0 : Int) < (m : Int) by omega); omega
          obtain ⟨A9, k9, v9, hr9, g0, g1, hO9⟩ := (hO.to hbd).pushTo (by omega) ((nd : Int) + rm)
          have HO9 : Hid (∃ vt, OfA W1 sb (T ++ toI S nd (i + 1)) R2 vt (.slice a3 R2.length c3) [stO cb S] (v9.setCell ⟨sb, 0, none⟩ (.slice A9 (T2.length + 1) k9))) := ⟨_, by rw [HTn.out, HTo.out, ← hrm]; exact hO9⟩
          have hr : (Builtin.append_ #[22, 22] 22 #[.slice a2 T2.length c2, .slice (some ⟨W.heap.size, 0, none⟩) 1 1]).run Tryz.prog ((W.alloc (.cells #[.int .i64 ((nd : Int) + rm)] 3)).drew) = .ok (.slice A9 (T2.length + 1) k9) v9 := hr9
          have hrem : Int.tmod ((i : Int) + (q : Int)) (m : Int) = rm := by rw [hrm]; exact Int.tmod_eq_emod_of_nonneg (by omega)
          have hwiq : IntKind.i64.wrap ((i : Int) + (q : Int)) = (i : Int) + (q : Int) := IntWalk.i64_in _ (by omega)
          have hwnr : IntKind.i64.wrap ((nd : Int) + rm) = (nd : Int) + rm := IntWalk.i64_in _ (by omega)
          have hwpq := HW.out
          have hn0 : ((m : Int) == 0) = false := beq_eq_false_iff_ne.2 (by omega)
          have hn00 : ¬ (m : Int) = 0 := by omega
          have hn01 : ¬ m = 0 := by omega
          have hn02 : (m == 0) = false := beq_eq_false_iff_ne.2 (by omega)
          rw [HSa.out.2.1] at s2
          rw [HSa.out.2.2] at s3
          have q0 := hO.cell.1
          have q0a := cell_al q0 (.cells #[.int .i64 ((nd : Int) + rm)] 3)
          have g1' := g1 0
          have hz0 : Hid (W.drew.cell? ⟨cb, 2, none⟩ = some (.int .i64 (p : Int)) ∧ W.drew.cell? ⟨cb, 3, none⟩ = some (.int .i64 (q : Int))) := ⟨s2, s3⟩
          have hz1 : Hid ((W.alloc (.cells #[.int .i64 ((nd : Int) + rm)] 3)).drew.cell? ⟨cb, 2, none⟩ = some (.int .i64 (p : Int)) ∧ (W.alloc (.cells #[.int .i64 ((nd : Int) + rm)] 3)).drew.cell? ⟨cb, 3, none⟩ = some (.int .i64 (q : Int))) := ⟨cell_al s2 _, cell_al s3 _⟩
          have hz3 : Hid ((v9.setCell ⟨sb, 0, none⟩ (.slice A9 (T2.length + 1) k9)).cell? ⟨cb, 2, none⟩ = some (.int .i64 (p : Int)) ∧ (v9.setCell ⟨sb, 0, none⟩ (.slice A9 (T2.length + 1) k9)).cell? ⟨cb, 3, none⟩ = some (.int .i64 (q : Int))) := by
           obtain ⟨-, -, x2, x3⟩ := stO_at (hO9.own.all (stO cb S) (by simp))
           rw [HSa.out.2.1] at x2
           rw [HSa.out.2.2] at x3
           exact ⟨x2, x3⟩
          have hz2 : Hid (v9.cell? ⟨cb, 2, none⟩ = some (.int .i64 (p : Int)) ∧ v9.cell? ⟨cb, 3, none⟩ = some (.int .i64 (q : Int))) := by
           have hne := own_box_ne hO9.own
           exact ⟨(World.cell?_setCell_other _ _ _ _ (fun e => hne (Addr.mk.inj e).1)).symm.trans hz3.out.1, (World.cell?_setCell_other _ _ _ _ (fun e => hne (Addr.mk.inj e).1)).symm.trans hz3.out.2⟩
          clear hO9 hO g1 HTn s0 s1 hr9 hbd hrm hrm0
          go_upto_region 44 with fail
          have hld : ∀ (t : TypeId) (x : Operand), ldOq t x = Op.load t x := fun _ _ => rfl
          rw [show Op.load 22 (Operand.tmp 127) = ldOq 22 (Operand.tmp 127) from rfl]
          go_region_held3 (fun W' => W'.cell? ⟨cb, 2, none⟩ = some (.int .i64 (p : Int)) ∧ W'.cell? ⟨cb, 3, none⟩ = some (.int .i64 (q : Int)))
           (first | (with_reducible exact hz0.out) | (with_reducible exact hz1.out) | (with_reducible exact hz2.out) | (with_reducible exact hz3.out) | fail)
           (first | ((with_reducible refine at_worldq ((W.alloc (.cells #[.int .i64 ((nd : Int) + rm)] 3)).drew) ?_); refine step_append_run (by rfl) _ _ _ _ (by rfl) _ _ (by rfl) (by rfl) hr ?_) | fail)
          all_goals
           go_upto_region 45 with fail
           refine abs_world (Q := fun W' => Code.wp _ _ _ _ W') (F := fun W' => ∃ vt, OfA W1 sb (T ++ toI S nd (i + 1)) R2 vt (.slice a3 R2.length c3) [stO cb S] W') _ HO9.out ?_
           clear HO9 hr g0 g1' q0 q0a hrem hwiq hwnr hwpq hn0 hn00 hn01 hn02 s2 s3 hz0 hz1 hz2 hz3 hld
           rintro W5 ⟨vt5, h5⟩
           have H5 : Hid (∃ vt vf, OfA W1 sb (T ++ toI S nd (i + 1)) (R2 ++ prsI S at0 i 0) vt vf [stO cb S] W5) := ⟨_, _, by rw [show prsI S at0 i 0 = [] from rfl, List.append_nil]; exact h5⟩
           clear h5
           go_wp2
           go_loopw [17] (fun sk wr => ∃ k2 : Nat, k2 ≤ kF S i ∧ sk = .int .i64 (k2 : Int) ∧ Hid (∃ vt vf, OfA W1 sb (T ++ toI S nd (i + 1)) (R2 ++ prsI S at0 i k2) vt vf [stO cb S] wr)) (fun sk _ => kF S i - (intOf sk).toNat)
           case atStart => exact ⟨0, Nat.zero_le _, rfl, H5.out⟩
           case round =>
            obtain ⟨k2, hk2, rfl, HO2⟩ := hrel
            clear H5
            obtain ⟨W, hW⟩ : ∃ x : World, x = wr := ⟨_, rfl⟩
            rw [← hW] at HO2 ⊢
            clear hW
            obtain ⟨vt6, vf6, hO6⟩ := HO2.out
            clear HO2
            have hki := HKf.out i
            rw [hki] at hk2
            obtain ⟨s0, s1, s2, s3⟩ := stO_at (hO6.own.all (stO cb S) (by simp))
            rw [HSa.out.1] at s0
            rw [HSa.out.2.1] at s2
            by_cases hlt2 : k2 < (if p ≤ i then p else 0)
            case pos =>
             have hpi : p ≤ i := by
              by_cases e : p ≤ i
              · exact e
              · rw [if_neg e] at hlt2; omega
             rw [if_pos hpi] at hlt2 hk2
             have b1 : decide ((p : Int) ≤ (i : Int)) = true := decide_eq_true (by omega)
             have b2 : decide ((k2 : Int) < (p : Int)) = true := decide_eq_true (by omega)
             have b3 : decide (p ≤ i) = true := decide_eq_true (by omega)
             have b4 : decide (k2 < p) = true := decide_eq_true (by omega)
             have hPn : R2 ++ prsI S at0 i (k2 + 1) = (R2 ++ prsI S at0 i k2) ++ [prI S at0 i k2] := by rw [prsI_next, List.append_assoc]
             have hr2l : (R2 ++ prsI S at0 i k2).length ≤ 31000 := by rw [List.length_append, prsI_len]; omega
             have HPn : Hid (R2 ++ prsI S at0 i (k2 + 1) = (R2 ++ prsI S at0 i k2) ++ [((at0 : Int) + (k2 : Int), (at0 : Int) + (i : Int))]) := by show _ = _; rw [hPn, HPr.out]
             obtain ⟨R3, hR3⟩ : ∃ R3, R3 = R2 ++ prsI S at0 i k2 := ⟨_, rfl⟩
             rw [← hR3] at hO6 HPn hr2l
             obtain ⟨-, ⟨a6, c6, rfl⟩⟩ := hO6.forms
             have HO6 := Lib.hid hO6
             obtain ⟨x, hx⟩ : ∃ x : Int, x = (at0 : Int) + (k2 : Int) := ⟨_, rfl⟩
             obtain ⟨y, hy⟩ : ∃ y : Int, y = (at0 : Int) + (i : Int) := ⟨_, rfl⟩
             have HXy : Hid (x = (at0 : Int) + (k2 : Int) ∧ y = (at0 : Int) + (i : Int)) := ⟨hx, hy⟩
             have hwx : IntKind.i64.wrap ((at0 : Int) + (k2 : Int)) = x := (IntWalk.i64_in _ (by omega)).trans hx.symm
             have hwy : IntKind.i64.wrap ((at0 : Int) + (i : Int)) = y := (IntWalk.i64_in _ (by omega)).trans hy.symm
             rw [← hx, ← hy] at HPn
             have s0a := cell_al s0 (.cells #[.int .i64 x, .int .i64 y] 48)
             clear hPn hO6 hR3 hx hy hki
             have HPw : Hid (OfA W1 sb (T ++ toI S nd (i + 1)) R3 vt6 (.slice a6 R3.length c6) [stO cb S] (W.alloc (.cells #[.int .i64 x, .int .i64 y] 48)) ∧ (W.alloc (.cells #[.int .i64 x, .int .i64 y] 48)).cell? ⟨W.heap.size, 0, none⟩ = some (.int .i64 x) ∧ (W.alloc (.cells #[.int .i64 x, .int .i64 y] 48)).cell? ⟨W.heap.size, 1, none⟩ = some (.int .i64 y)) := ⟨HO6.out.to (al_t _ _), cell_new rfl rfl rfl, cell_new rfl rfl rfl⟩
             clear HO6
             go_upto_region 51 with fail
             refine abs_world (Q := fun W' => Code.wp _ _ _ _ W') (F := fun W' => OfA W1 sb (T ++ toI S nd (i + 1)) R3 vt6 (.slice a6 R3.length c6) [stO cb S] W' ∧ W'.cell? ⟨W.heap.size, 0, none⟩ = some (.int .i64 x) ∧ W'.cell? ⟨W.heap.size, 1, none⟩ = some (.int .i64 y)) _ HPw.out ?_
             clear HPw hwx hwy s0a s0 s1 s2 s3
             rintro W7 ⟨h7, t0, t1⟩
             have q1 := h7.cell.2.1
             obtain ⟨A9, k9, v9, hr9, g0, g1, hO9⟩ := h7.pushFr (by omega) (x, y)
             have HO9 : Hid (∃ vt vf, OfA W1 sb (T ++ toI S nd (i + 1)) (R2 ++ prsI S at0 i (k2 + 1)) vt vf [stO cb S] (v9.setCell ⟨sb, 1, none⟩ (.slice A9 (R3.length + 1) k9))) := ⟨_, _, by rw [HPn.out]; exact hO9⟩
             have hr : (Builtin.append_ #[23, 23] 23 #[.slice a6 R3.length c6, .slice (some ⟨W7.heap.size, 0, none⟩) 1 1]).run Tryz.prog (W7.alloc (.cells #[.int .i64 x, .int .i64 y] 48)) = .ok (.slice A9 (R3.length + 1) k9) v9 := hr9
             have g1' := g1 1
             have HKi : Hid (k2 + 1 ≤ kF S i) := by show _ ≤ _; rw [HKf.out]; rw [if_pos hpi]; omega
             have HMs : Hid (kF S i - (k2 + 1) < kF S i - k2) := by have h := HKi.out; show _ < _; have h2 : k2 + 1 ≤ kF S i := h; omega
             clear h7 hO9 hr9 g1 HPn
             go_wp2_with (at_builtin; refine wpList_append_run _ rfl _ _ _ _ rfl _ _ (by rfl) (by rfl) hr ?_)
             go_roundw
             case rel => exact ⟨k2 + 1, HKi.out, by go_num, HO9.out⟩
             case measure =>
              have h := HMs.out
              simp only [intOf]
              omega
            case neg =>
             have hke : k2 = kF S i := by rw [hki]; omega
             have HO9 : Hid (∃ vt vf, OfA W1 sb (T ++ toI S nd (i + 1)) (R ++ frI S at0 (i + 1)) vt vf [stO cb S] W) := ⟨_, _, by rw [HFn.out, ← hke]; exact hO6⟩
             have hb : (decide ((p : Int) ≤ (i : Int)) = false ∧ decide (p ≤ i) = false) ∨ ((decide ((p : Int) ≤ (i : Int)) = true ∧ decide (p ≤ i) = true) ∧ (decide ((k2 : Int) < (p : Int)) = false ∧ decide (k2 < p) = false)) := by
              by_cases e : p ≤ i
              · rw [if_pos e] at hlt2; exact Or.inr ⟨⟨decide_eq_true (by omega), decide_eq_true (by omega)⟩, decide_eq_false (by omega), decide_eq_false (by omega)⟩
              · exact Or.inl ⟨decide_eq_false (by omega), decide_eq_false (by omega)⟩
             clear hlt2 hk2
             clear hO6 hke hki s1 s3
             rcases hb with ⟨b1, b3⟩ | ⟨⟨b1, b3⟩, b2, b4⟩
             all_goals
              go_wp2
              go_roundw
              case rel => exact ⟨i + 1, by omega, by go_num, HO9.out⟩
              case measure => simp [intOf]; omega
         case neg =>
          obtain rfl : i = m := by omega
          have hN : Hid (runO l (k + 1) = ⟨nd + i, T ++ toI S nd i, R ++ frI S at0 i⟩) := by
           show _ = _
           rw [HNx2.out]
           unfold stepO
           rw [HM.out.1, HM.out.2, ← HAt.out]
          have HO9 : Hid (∃ vt vf, OfA W1 sb (runO l (k + 1)).to_ (runO l (k + 1)).fr vt vf [] W) := ⟨_, _, by rw [hN.out]; exact hO.sub (List.nil_sublist _)⟩
          have HNd : Hid (nd + i = (runO l (k + 1)).nd) := by show _ = _; rw [hN.out]
          obtain ⟨s0, s1, s2, s3⟩ := stO_at (hO.own.all (stO cb S) (by simp))
          rw [HSa.out.2.1] at s2
          rw [HSa.out.2.2] at s3
          have hwpq := HW.out
          clear hO hN HNx2 hfl hlt hi
          go_wp2
          go_roundw
          case rel => exact ⟨k + 1, by omega, by go_num, by rw [← HNd.out]; go_num, HO9.out⟩
          case measure => simp [intOf]; omega
      · have hrg := rg2 (by omega)
        obtain ⟨p, rfl⟩ : ∃ p : Nat, sa = (p : Int) := ⟨sa.toNat, by omega⟩
        obtain ⟨q, rfl⟩ : ∃ q : Nat, sb2 = (q : Int) := ⟨sb2.toNat, by omega⟩
        obtain ⟨S, hS⟩ : ∃ S : Stc, S = ⟨7, purl, (p : Int), (q : Int)⟩ := ⟨_, rfl⟩
        obtain ⟨m, hm⟩ : ∃ m, m = p + q := ⟨_, rfl⟩
        have HPq : Hid (m = p + q) := hm
        have hmc : ((p : Int) + (q : Int)) = (m : Int) := by omega
        have HM : Hid (ofM S = m ∧ ofG S = m) := ⟨by rw [hS]; unfold ofM; simp; omega, by rw [hS]; unfold ofG; simp; omega⟩
        have HTo : Hid (∀ i, toF S nd i = (nd : Int) + ((i : Int) + (q : Int)) % (m : Int)) := fun i => by rw [hS, ← hmc]; unfold toF; simp
        have HKf : Hid (∀ i, kF S i = if p ≤ i then p else 0) := fun i => by rw [hS]; unfold kF; simp
        have HSa : Hid (S.kind = 7 ∧ S.a = (p : Int) ∧ S.b = (q : Int)) := by rw [hS]; exact ⟨rfl, rfl, rfl⟩
        have hp6 : 1 ≤ p ∧ p ≤ 6 ∧ 1 ≤ q ∧ q ≤ 6 := by omega
        have hm12 : m ≤ 12 := by omega
        have hwpq : IntKind.i64.wrap ((p : Int) + (q : Int)) = (m : Int) := (IntWalk.i64_in _ (by omega)).trans hmc
        have HW : Hid (IntKind.i64.wrap ((p : Int) + (q : Int)) = (m : Int)) := hwpq
        have HPr : Hid (∀ i k : Nat, prI S at0 i k = ((at0 : Int) + (i : Int), (at0 : Int) + (k : Int))) := fun i k => by rw [hS]; unfold prI swP swF; simp
        have HS0 : Hid (∃ vt vf, OfA W1 sb (T ++ toI S nd 0) (R ++ frI S at0 0) vt vf [stO cb S] W3) := ⟨_, _, by rw [show toI S nd 0 = [] from rfl, show frI S at0 0 = [] from rfl, List.append_nil, List.append_nil, hS]; exact H3.out⟩
        have HFl : Hid (∀ i, i ≤ m → (frI S at0 i).length ≤ 12 * i) := fun i hi => frI_len (by rw [hS]; exact HC.out) at0 i (by rw [HM.out.1]; exact hi)
        have HNx2 : Hid (runO l (k + 1) = stepO ⟨nd, T, R⟩ S) := by show _ = _; rw [HNx.out, hS]
        clear H3 rg1 rg2 hS HNx hm hrg
        go_wp2
        clear q0 q1 p0 p1 p2 p3 hwpq hmc
        go_loopw [124] (fun si wr => ∃ i : Nat, i ≤ m ∧ si = .int .i64 (i : Int) ∧ Hid (∃ vt vf, OfA W1 sb (T ++ toI S nd i) (R ++ frI S at0 i) vt vf [stO cb S] wr)) (fun si _ => m - (intOf si).toNat)
        case atStart => exact ⟨0, Nat.zero_le _, rfl, HS0.out⟩
        case round =>
         obtain ⟨i, hi, rfl, HO⟩ := hrel
         clear HS0
         obtain ⟨W, hW⟩ : ∃ x : World, x = wr := ⟨_, rfl⟩
         rw [← hW] at HO ⊢
         clear hW
         obtain ⟨vt, vf, hO⟩ := HO.out
         clear HO
         have hfl := HFl.out i hi
         by_cases hlt : i < m
         case pos =>
          obtain ⟨⟨a2, c2, hvt⟩, ⟨a3, c3, hvf⟩⟩ := hO.forms
          obtain ⟨s0, s1, s2, s3⟩ := stO_at (hO.own.all (stO cb S) (by simp))
          have HTn : Hid (T ++ toI S nd (i + 1) = (T ++ toI S nd i) ++ [toF S nd i]) := by show _ = _; rw [toI_next, List.append_assoc]
          have ht2 : (T ++ toI S nd i).length ≤ 42000 := by rw [List.length_append, toI_len]; have := HAt.out; omega
          have hf2 : (R ++ frI S at0 i).length ≤ 30000 := by rw [List.length_append]; omega
          have HFn : Hid (R ++ frI S at0 (i + 1) = (R ++ frI S at0 i) ++ prsI S at0 i (kF S i)) := by show _ = _; rw [frI_next, List.append_assoc]
          obtain ⟨T2, hT2⟩ : ∃ T2, T2 = T ++ toI S nd i := ⟨_, rfl⟩
          obtain ⟨R2, hR2⟩ : ∃ R2, R2 = R ++ frI S at0 i := ⟨_, rfl⟩
          rw [← hT2] at hO hvt HTn ht2
          rw [← hR2] at hO hvf HFn hf2
          subst hvt hvf
          clear hT2 hR2 hfl
          have hbd : Below W.heap.size W W.drew := Below.drew (Below.refl _ _)
          obtain ⟨rm, hrm⟩ : ∃ rm : Int, rm = ((i : Int) + (q : Int)) % (m : Int) := ⟨_, rfl⟩
          have hrm0 : 0 ≤ rm ∧ rm < 12 := by rw [hrm]; have h1 := Int.emod_nonneg ((i : Int) + (q : Int)) (show (m : Int) ≠ 0 by omega); have h2 := Int.emod_lt_of_pos ((i : Int) + (q : Int)) (show (0 : Int) < (m : Int) by omega); omega
          obtain ⟨A9, k9, v9, hr9, g0, g1, hO9⟩ := (hO.to hbd).pushTo (by omega) ((nd : Int) + rm)
          have HO9 : Hid (∃ vt, OfA W1 sb (T ++ toI S nd (i + 1)) R2 vt (.slice a3 R2.length c3) [stO cb S] (v9.setCell ⟨sb, 0, none⟩ (.slice A9 (T2.length + 1) k9))) := ⟨_, by rw [HTn.out, HTo.out, ← hrm]; exact hO9⟩
          have hr : (Builtin.append_ #[22, 22] 22 #[.slice a2 T2.length c2, .slice (some ⟨W.heap.size, 0, none⟩) 1 1]).run Tryz.prog ((W.alloc (.cells #[.int .i64 ((nd : Int) + rm)] 3)).drew) = .ok (.slice A9 (T2.length + 1) k9) v9 := hr9
          have hrem : Int.tmod ((i : Int) + (q : Int)) (m : Int) = rm := by rw [hrm]; exact Int.tmod_eq_emod_of_nonneg (by omega)
          have hwiq : IntKind.i64.wrap ((i : Int) + (q : Int)) = (i : Int) + (q : Int) := IntWalk.i64_in _ (by omega)
          have hwnr : IntKind.i64.wrap ((nd : Int) + rm) = (nd : Int) + rm := IntWalk.i64_in _ (by omega)
          have hwpq := HW.out
          have hn0 : ((m : Int) == 0) = false := beq_eq_false_iff_ne.2 (by omega)
          have hn00 : ¬ (m : Int) = 0 := by omega
          have hn01 : ¬ m = 0 := by omega
          have hn02 : (m == 0) = false := beq_eq_false_iff_ne.2 (by omega)
          rw [HSa.out.2.1] at s2
          rw [HSa.out.2.2] at s3
          have q0 := hO.cell.1
          have q0a := cell_al q0 (.cells #[.int .i64 ((nd : Int) + rm)] 3)
          have g1' := g1 0
          have hz0 : Hid (W.drew.cell? ⟨cb, 2, none⟩ = some (.int .i64 (p : Int)) ∧ W.drew.cell? ⟨cb, 3, none⟩ = some (.int .i64 (q : Int))) := ⟨s2, s3⟩
          have hz1 : Hid ((W.alloc (.cells #[.int .i64 ((nd : Int) + rm)] 3)).drew.cell? ⟨cb, 2, none⟩ = some (.int .i64 (p : Int)) ∧ (W.alloc (.cells #[.int .i64 ((nd : Int) + rm)] 3)).drew.cell? ⟨cb, 3, none⟩ = some (.int .i64 (q : Int))) := ⟨cell_al s2 _, cell_al s3 _⟩
          have hz3 : Hid ((v9.setCell ⟨sb, 0, none⟩ (.slice A9 (T2.length + 1) k9)).cell? ⟨cb, 2, none⟩ = some (.int .i64 (p : Int)) ∧ (v9.setCell ⟨sb, 0, none⟩ (.slice A9 (T2.length + 1) k9)).cell? ⟨cb, 3, none⟩ = some (.int .i64 (q : Int))) := by
           obtain ⟨-, -, x2, x3⟩ := stO_at (hO9.own.all (stO cb S) (by simp))
           rw [HSa.out.2.1] at x2
           rw [HSa.out.2.2] at x3
           exact ⟨x2, x3⟩
          have hz2 : Hid (v9.cell? ⟨cb, 2, none⟩ = some (.int .i64 (p : Int)) ∧ v9.cell? ⟨cb, 3, none⟩ = some (.int .i64 (q : Int))) := by
           have hne := own_box_ne hO9.own
           exact ⟨(World.cell?_setCell_other _ _ _ _ (fun e => hne (Addr.mk.inj e).1)).symm.trans hz3.out.1, (World.cell?_setCell_other _ _ _ _ (fun e => hne (Addr.mk.inj e).1)).symm.trans hz3.out.2⟩
          clear hO9 hO g1 HTn s0 s1 hr9 hbd hrm hrm0
          go_upto_region 44 with fail
          have hld : ∀ (t : TypeId) (x : Operand), ldOq t x = Op.load t x := fun _ _ => rfl
          rw [show Op.load 22 (Operand.tmp 127) = ldOq 22 (Operand.tmp 127) from rfl]
          go_region_held3 (fun W' => W'.cell? ⟨cb, 2, none⟩ = some (.int .i64 (p : Int)) ∧ W'.cell? ⟨cb, 3, none⟩ = some (.int .i64 (q : Int)))
           (first | (with_reducible exact hz0.out) | (with_reducible exact hz1.out) | (with_reducible exact hz2.out) | (with_reducible exact hz3.out) | fail)
           (first | ((with_reducible refine at_worldq ((W.alloc (.cells #[.int .i64 ((nd : Int) + rm)] 3)).drew) ?_); refine step_append_run (by rfl) _ _ _ _ (by rfl) _ _ (by rfl) (by rfl) hr ?_) | fail)
          all_goals
           go_upto_region 45 with fail
           refine abs_world (Q := fun W' => Code.wp _ _ _ _ W') (F := fun W' => ∃ vt, OfA W1 sb (T ++ toI S nd (i + 1)) R2 vt (.slice a3 R2.length c3) [stO cb S] W') _ HO9.out ?_
           clear HO9 hr g0 g1' q0 q0a hrem hwiq hwnr hwpq hn0 hn00 hn01 hn02 s2 s3 hz0 hz1 hz2 hz3 hld
           rintro W5 ⟨vt5, h5⟩
           have H5 : Hid (∃ vt vf, OfA W1 sb (T ++ toI S nd (i + 1)) (R2 ++ prsI S at0 i 0) vt vf [stO cb S] W5) := ⟨_, _, by rw [show prsI S at0 i 0 = [] from rfl, List.append_nil]; exact h5⟩
           clear h5
           go_wp2
           go_loopw [17] (fun sk wr => ∃ k2 : Nat, k2 ≤ kF S i ∧ sk = .int .i64 (k2 : Int) ∧ Hid (∃ vt vf, OfA W1 sb (T ++ toI S nd (i + 1)) (R2 ++ prsI S at0 i k2) vt vf [stO cb S] wr)) (fun sk _ => kF S i - (intOf sk).toNat)
           case atStart => exact ⟨0, Nat.zero_le _, rfl, H5.out⟩
           case round =>
            obtain ⟨k2, hk2, rfl, HO2⟩ := hrel
            clear H5
            obtain ⟨W, hW⟩ : ∃ x : World, x = wr := ⟨_, rfl⟩
            rw [← hW] at HO2 ⊢
            clear hW
            obtain ⟨vt6, vf6, hO6⟩ := HO2.out
            clear HO2
            have hki := HKf.out i
            rw [hki] at hk2
            obtain ⟨s0, s1, s2, s3⟩ := stO_at (hO6.own.all (stO cb S) (by simp))
            rw [HSa.out.1] at s0
            rw [HSa.out.2.1] at s2
            by_cases hlt2 : k2 < (if p ≤ i then p else 0)
            case pos =>
             have hpi : p ≤ i := by
              by_cases e : p ≤ i
              · exact e
              · rw [if_neg e] at hlt2; omega
             rw [if_pos hpi] at hlt2 hk2
             have b1 : decide ((p : Int) ≤ (i : Int)) = true := decide_eq_true (by omega)
             have b2 : decide ((k2 : Int) < (p : Int)) = true := decide_eq_true (by omega)
             have b3 : decide (p ≤ i) = true := decide_eq_true (by omega)
             have b4 : decide (k2 < p) = true := decide_eq_true (by omega)
             have hPn : R2 ++ prsI S at0 i (k2 + 1) = (R2 ++ prsI S at0 i k2) ++ [prI S at0 i k2] := by rw [prsI_next, List.append_assoc]
             have hr2l : (R2 ++ prsI S at0 i k2).length ≤ 31000 := by rw [List.length_append, prsI_len]; omega
             have HPn : Hid (R2 ++ prsI S at0 i (k2 + 1) = (R2 ++ prsI S at0 i k2) ++ [((at0 : Int) + (i : Int), (at0 : Int) + (k2 : Int))]) := by show _ = _; rw [hPn, HPr.out]
             obtain ⟨R3, hR3⟩ : ∃ R3, R3 = R2 ++ prsI S at0 i k2 := ⟨_, rfl⟩
             rw [← hR3] at hO6 HPn hr2l
             obtain ⟨-, ⟨a6, c6, rfl⟩⟩ := hO6.forms
             have HO6 := Lib.hid hO6
             obtain ⟨x, hx⟩ : ∃ x : Int, x = (at0 : Int) + (k2 : Int) := ⟨_, rfl⟩
             obtain ⟨y, hy⟩ : ∃ y : Int, y = (at0 : Int) + (i : Int) := ⟨_, rfl⟩
             have HXy : Hid (x = (at0 : Int) + (k2 : Int) ∧ y = (at0 : Int) + (i : Int)) := ⟨hx, hy⟩
             have hwx : IntKind.i64.wrap ((at0 : Int) + (k2 : Int)) = x := (IntWalk.i64_in _ (by omega)).trans hx.symm
             have hwy : IntKind.i64.wrap ((at0 : Int) + (i : Int)) = y := (IntWalk.i64_in _ (by omega)).trans hy.symm
             rw [← hx, ← hy] at HPn
             have s0a := cell_al s0 (.cells #[.int .i64 x, .int .i64 y] 48)
             clear hPn hO6 hR3 hx hy hki
             have HPw : Hid (OfA W1 sb (T ++ toI S nd (i + 1)) R3 vt6 (.slice a6 R3.length c6) [stO cb S] (W.alloc (.cells #[.int .i64 y, .int .i64 x] 48)) ∧ (W.alloc (.cells #[.int .i64 y, .int .i64 x] 48)).cell? ⟨W.heap.size, 0, none⟩ = some (.int .i64 y) ∧ (W.alloc (.cells #[.int .i64 y, .int .i64 x] 48)).cell? ⟨W.heap.size, 1, none⟩ = some (.int .i64 x)) := ⟨HO6.out.to (al_t _ _), cell_new rfl rfl rfl, cell_new rfl rfl rfl⟩
             clear HO6
             go_upto_region 51 with fail
             refine abs_world (Q := fun W' => Code.wp _ _ _ _ W') (F := fun W' => OfA W1 sb (T ++ toI S nd (i + 1)) R3 vt6 (.slice a6 R3.length c6) [stO cb S] W' ∧ W'.cell? ⟨W.heap.size, 0, none⟩ = some (.int .i64 y) ∧ W'.cell? ⟨W.heap.size, 1, none⟩ = some (.int .i64 x)) _ HPw.out ?_
             clear HPw hwx hwy s0a s0 s1 s2 s3
             rintro W7 ⟨h7, t0, t1⟩
             have q1 := h7.cell.2.1
             obtain ⟨A9, k9, v9, hr9, g0, g1, hO9⟩ := h7.pushFr (by omega) (y, x)
             have HO9 : Hid (∃ vt vf, OfA W1 sb (T ++ toI S nd (i + 1)) (R2 ++ prsI S at0 i (k2 + 1)) vt vf [stO cb S] (v9.setCell ⟨sb, 1, none⟩ (.slice A9 (R3.length + 1) k9))) := ⟨_, _, by rw [HPn.out]; exact hO9⟩
             have hr : (Builtin.append_ #[23, 23] 23 #[.slice a6 R3.length c6, .slice (some ⟨W7.heap.size, 0, none⟩) 1 1]).run Tryz.prog (W7.alloc (.cells #[.int .i64 y, .int .i64 x] 48)) = .ok (.slice A9 (R3.length + 1) k9) v9 := hr9
             have g1' := g1 1
             have HKi : Hid (k2 + 1 ≤ kF S i) := by show _ ≤ _; rw [HKf.out]; rw [if_pos hpi]; omega
             have HMs : Hid (kF S i - (k2 + 1) < kF S i - k2) := by have h := HKi.out; show _ < _; have h2 : k2 + 1 ≤ kF S i := h; omega
             clear h7 hO9 hr9 g1 HPn
             go_wp2_with (at_builtin; refine wpList_append_run _ rfl _ _ _ _ rfl _ _ (by rfl) (by rfl) hr ?_)
             go_roundw
             case rel => exact ⟨k2 + 1, HKi.out, by go_num, HO9.out⟩
             case measure =>
              have h := HMs.out
              simp only [intOf]
              omega
            case neg =>
             have hke : k2 = kF S i := by rw [hki]; omega
             have HO9 : Hid (∃ vt vf, OfA W1 sb (T ++ toI S nd (i + 1)) (R ++ frI S at0 (i + 1)) vt vf [stO cb S] W) := ⟨_, _, by rw [HFn.out, ← hke]; exact hO6⟩
             have hb : (decide ((p : Int) ≤ (i : Int)) = false ∧ decide (p ≤ i) = false) ∨ ((decide ((p : Int) ≤ (i : Int)) = true ∧ decide (p ≤ i) = true) ∧ (decide ((k2 : Int) < (p : Int)) = false ∧ decide (k2 < p) = false)) := by
              by_cases e : p ≤ i
              · rw [if_pos e] at hlt2; exact Or.inr ⟨⟨decide_eq_true (by omega), decide_eq_true (by omega)⟩, decide_eq_false (by omega), decide_eq_false (by omega)⟩
              · exact Or.inl ⟨decide_eq_false (by omega), decide_eq_false (by omega)⟩
             clear hlt2 hk2
             clear hO6 hke hki s1 s3
             rcases hb with ⟨b1, b3⟩ | ⟨⟨b1, b3⟩, b2, b4⟩
             all_goals
              go_wp2
              go_roundw
              case rel => exact ⟨i + 1, by omega, by go_num, HO9.out⟩
              case measure => simp [intOf]; omega
         case neg =>
          obtain rfl : i = m := by omega
          have hN : Hid (runO l (k + 1) = ⟨nd + i, T ++ toI S nd i, R ++ frI S at0 i⟩) := by
           show _ = _
           rw [HNx2.out]
           unfold stepO
           rw [HM.out.1, HM.out.2, ← HAt.out]
          have HO9 : Hid (∃ vt vf, OfA W1 sb (runO l (k + 1)).to_ (runO l (k + 1)).fr vt vf [] W) := ⟨_, _, by rw [hN.out]; exact hO.sub (List.nil_sublist _)⟩
          have HNd : Hid (nd + i = (runO l (k + 1)).nd) := by show _ = _; rw [hN.out]
          obtain ⟨s0, s1, s2, s3⟩ := stO_at (hO.own.all (stO cb S) (by simp))
          rw [HSa.out.2.1] at s2
          rw [HSa.out.2.2] at s3
          have hwpq := HW.out
          clear hO hN HNx2 hfl hlt hi
          go_wp2
          go_roundw
          case rel => exact ⟨k + 1, by omega, by go_num, by rw [← HNd.out]; go_num, HO9.out⟩
          case measure => simp [intOf]; omega
      · have hk0 := HNx.out
        have hN : Hid (runO l (k + 1) = ⟨nd + 1, T ++ [(nd : Int)], R⟩) := by
         show _ = _
         rw [hk0]
         unfold stepO ofG ofM toI frI toF
         simp [prsI, kF]
        obtain ⟨A9, k9, v9, hr9, g0, g1, hO9⟩ := H3.out.pushTo (by have := HAt.out; omega) (nd : Int)
        have HO9 : Hid (OfA W1 sb (runO l (k + 1)).to_ (runO l (k + 1)).fr (.slice A9 (T.length + 1) k9) (.slice af R.length cf) [] (v9.setCell ⟨sb, 0, none⟩ (.slice A9 (T.length + 1) k9))) := by
         show OfA _ _ _ _ _ _ _ _
         rw [hN.out]
         exact hO9.sub (List.nil_sublist _)
        have HNd : Hid (nd + 1 = (runO l (k + 1)).nd) := by show _ = _; rw [hN.out]
        have g1' := g1 0
        clear hk0 hO9 hN HNx rg1 rg2 g1 H3
        go_wp2_with (at_builtin; refine wpList_append_run _ rfl _ _ _ _ rfl _ _ (by rfl) (by rfl) hr9 ?_)
        go_roundw
        case rel => exact ⟨k + 1, by omega, by go_num, by rw [← HNd.out]; go_num, _, _, HO9.out⟩
        case measure => simp [intOf]; omega
     case neg =>
      obtain rfl : k = l.length := by omega
      have hbnd := runO_bnd HCk.out l.length (Nat.le_refl _)
      have htl : (runO l l.length).to_.length ≤ 41200 := by
       have := sum_rng (f := usesS) (l := l) (fun s hs => by
        have h1 := (HCk.out s hs).uses
        have h2 := (HCk.out s hs).small.1
        omega)
       rw [List.take_length] at ln2
       unfold sumU at ln2
       omega
      obtain ⟨T, hT⟩ : ∃ T, T = (runO l l.length).to_ := ⟨_, rfl⟩
      obtain ⟨R, hR⟩ : ∃ R, R = (runO l l.length).fr := ⟨_, rfl⟩
      obtain ⟨nd, hnd⟩ : ∃ nd, nd = (runO l l.length).nd := ⟨_, rfl⟩
      rw [← hT] at HFa3 HOk3 hO hbnd htl
      rw [← hR] at HOk3 hO ln3
      rw [← hnd]
      have HBn := Lib.hid hbnd
      obtain ⟨⟨a2, c2, rfl⟩, ⟨a3, c3, rfl⟩⟩ := hO.forms
      have q1 := hO.cell.2.1
      have HSr := Lib.hid (sortPr_any W1.heap.size a3 c3 R (by omega) W (hO.own.all (pxP (.slice a3 R.length c3) R) (by simp)))
      have HFb : Hid (∀ b off, a3 = some ⟨b, off, none⟩ → R ≠ [] → W1.heap.size ≤ b) := fun b off e hne => by
       have h1 : (pxP (.slice a3 R.length c3) R).lies W W1.heap.size := hO.own.all _ (by simp)
       rcases h1.2 with ⟨-, h0⟩ | ⟨g, cap, cur, hv, hg, -⟩
       · exact absurd (List.length_eq_zero_iff.1 h0) hne
       · have hv2 : Value.slice a3 R.length c3 = .slice (some ⟨g, 0, none⟩) R.length cap := hv
         cases hv2
         cases e
         exact hg
      have HO := Lib.hid hO
      clear hO hT hR hnd hbnd ln1 ln2 ln3 hlt hk
      go_wp2_with fail
      refine HSr.out.mono ?_
      rintro e w5 ⟨rfl, hsp, hg5⟩
      obtain ⟨W5, hW5⟩ : ∃ x : World, x = w5 := ⟨_, rfl⟩
      rw [← hW5] at hsp hg5 ⊢
      clear hW5
      obtain ⟨p0, p1, hrow, hlo5⟩ := HO.out.sorted hg5
      have HSp := Lib.hid hsp
      have HRow := Lib.hid hrow
      have hO5 : Owns W5 W1.heap.size [pxJ (.slice a2 T.length c2) T] := ⟨fun o ho => by rw [List.mem_singleton.1 ho]; exact hrow, List.pairwise_singleton _ _⟩
      have HSl := Lib.hid (pxJ_sl hO5)
      have hRb5 := (HYs.out W5 hlo5).1
      have r0 := hRb5.r0
      have r1 := hRb5.r1
      have rf := hRb5.fz
      have HRb := Lib.hid hRb5
      have HRl : Hid (rb < W1.heap.size) := lt_of_cell (HYs.out W1 (Below.refl _ _)).1.r0
      clear HSr hsp hg5 hrow hlo5 hO5 hRb5 HO q1
      go_wp2
      go_loopw [193] (fun s193 wr => ∃ i : Nat, i ≤ T.length ∧ s193 = .int .i64 (i : Int) ∧ Hid (∀ j, j < i → decide (8 < max (T.getD j 0 - (j : Int)) ((j : Int) - T.getD j 0)) = false) ∧ Hid (W5 = wr)) (fun s193 _ => T.length - (intOf s193).toNat)
      case atStart => exact ⟨0, Nat.zero_le _, rfl, (fun j h => absurd h (Nat.not_lt_zero j)), rfl⟩
      case round =>
       obtain ⟨i, hi, rfl, HN, HWe⟩ := hrel
       obtain rfl := HWe.out
       clear HWe
       by_cases hlt : i < T.length
       case pos =>
        obtain ⟨b, off, z, hA, -, hz, hcz⟩ := HSl.out.at_ hlt
        obtain ⟨z0, z1⟩ := HBn.out z (List.mem_of_getElem? hz)
        have HZ : Hid (T.getD i 0 = z) := by show _ = _; rw [List.getD_eq_getElem?_getD, hz]; rfl
        subst hA
        clear hz
        by_cases hf : 8 < max (z - (i : Int)) ((i : Int) - z)
        case pos =>
         have d8 : decide (8 < max (z - (i : Int)) ((i : Int) - z)) = true := decide_eq_true hf
         have HR := Lib.hid (HFa3.out (by
          unfold farB
          rw [List.any_eq_true]
          exact ⟨i, List.mem_range.2 hlt, by rw [HZ.out]; exact d8⟩))
         have HL := Lib.hid (HRb.out.lay (.slice none 0 0) (.slice none 0 0))
         clear hf
         go_wp2
         (try simp only [Exit.inBlock, Exit.then])
         refine of_close HL.out.1 HL.out.2.1 ?_ ?_ (ShPost.none HR.out HL.out.2.2.1) <;> rfl
        case neg =>
         have d8 : decide (8 < max (z - (i : Int)) ((i : Int) - z)) = false := decide_eq_false hf
         have HN2 : Hid (∀ j, j < i + 1 → decide (8 < max (T.getD j 0 - (j : Int)) ((j : Int) - T.getD j 0)) = false) := fun j hj => by
          by_cases e : j = i
          · subst e; rw [HZ.out]; exact d8
          · exact HN.out j (by omega)
         clear hf
         go_wp2
         go_roundw
         case rel => exact ⟨i + 1, by omega, by go_num, HN2.out, by first | rfl | trivial⟩
         case measure => simp [intOf]; omega
       case neg =>
        have HR := Lib.hid (HOk3.out (by
         unfold farB
         rw [List.any_eq_false]
         intro j hj
         rw [HN.out j (by have := List.mem_range.1 hj; omega)]; simp))
        have hsl2 : (sortP R).length = R.length := by unfold sortP; exact List.length_mergeSort R
        have HL := Lib.hid (HRb.out.lay (.slice a2 T.length c2) (.slice a3 R.length c3))
        have HE : Hid (ShPost w r (.returned (.tuple #[.agg #[.slice a2 T.length c2, .slice a3 R.length c3], .int .i64 0])) ((W5.setCell ⟨rb, 0, none⟩ (.slice a2 T.length c2)).setCell ⟨rb, 1, none⟩ (.slice a3 R.length c3))) := by
         exact of_end HRb.out HRl.out HRow.out HSp.out (fun b off e hne => HFb.out b off e (fun e2 => hne (by rw [e2]; unfold sortP; simp))) hsl2.symm HR.out
        clear HN hsl2
        go_wp2
        (try simp only [Exit.inBlock, Exit.then])
        refine of_close HL.out.1 HL.out.2.1 ?_ ?_ HE.out <;> rfl
end Go.Proofs.YtflpikickbellaaGreat
