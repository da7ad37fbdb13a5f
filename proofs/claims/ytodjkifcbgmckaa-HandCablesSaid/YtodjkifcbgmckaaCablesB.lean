/- HandCables, walked: a cable can be worked with one cable needle; more needles never hurt. -/
import Derived.Test.YtodjkifcbgmckaaSt2
import Derived.Test.YtodjkifcbgmckaaFwst
import Derived.Test.YtodjkifcbgmckaaHs2
import Derived.Test.YtodjkifcbgmckaaHof2
import Derived.Test.YtodjkifcbgmckaaHlw
import Derived.Test.YtodjkifcbgmckaaHrck
import Derived.Test.YtodjkifcbgmckaaRsea
import Derived.Deep.RegionHeld3
namespace Go.Proofs.Ytodjkifcbgmckaa
open Go.RowKit
set_option maxRecDepth 100000

theorem err_of {k : Int} {pl : Bool} {a b : Int} {v : Int} (q : Bool) (h : (⟨k, pl, a, b⟩ : Stc).ok = q) (hv : v = if q then 0 else 8) : (⟨k, pl, a, b⟩ : Stc).err = v := by unfold Stc.err; rw [h, hv]
set_option maxHeartbeats 4000000 in
theorem rscheck_any (s : Stc) (w : World) : Calls Try.prog 31 #[s.val] w fun e w' => RetE s.err w e w' := by
  obtain ⟨k, pl, a, b⟩ := s
  have hbl := Lib.hid (fun o => (Below.refl w.heap.size w).alloc (Nat.le_refl _) o)
  by_cases h : 1 ≤ k ∧ k ≤ 10
  · rcases (by omega : k = 1 ∨ k = 2 ∨ k = 3 ∨ k = 4 ∨ k = 5 ∨ k = 6 ∨ k = 7 ∨ k = 8 ∨ k = 9 ∨ k = 10) with rfl | rfl | rfl | rfl | rfl | rfl | rfl | rfl | rfl | rfl
    all_goals clear h
    all_goals cases pl
    all_goals
      go_enter Try.func31, Try.ntmps31
      go_wp2
      all_goals go_ret
      all_goals exact RetE.mk' (by (try simp only [Bool.not_eq_true', Bool.not_eq_false', beq_eq_false_iff_ne, beq_iff_eq, ne_eq, decide_eq_true_eq, decide_eq_false_iff_not] at *); simp [Stc.err, Stc.ok, formI, formT, form0] <;> omega) (hbl.out _)
  · have hn : ∀ j : Int, 1 ≤ j → j ≤ 10 → (k == j) = false := fun j h1 h2 => beq_eq_false_iff_ne.2 (by omega)
    have e1 := hn 1 (by decide) (by decide)
    have e2 := hn 2 (by decide) (by decide)
    have e3 := hn 3 (by decide) (by decide)
    have e4 := hn 4 (by decide) (by decide)
    have e5 := hn 5 (by decide) (by decide)
    have e6 := hn 6 (by decide) (by decide)
    have e7 := hn 7 (by decide) (by decide)
    have e8 := hn 8 (by decide) (by decide)
    have e9 := hn 9 (by decide) (by decide)
    have e10 := hn 10 (by decide) (by decide)
    have HE : Hid ((⟨k, pl, a, b⟩ : Stc).err = 8) := by unfold Hid Stc.err Stc.ok; simp [h]
    clear hn h
    go_enter Try.func31, Try.ntmps31
    go_wp2
    all_goals go_ret
    all_goals exact RetE.mk' HE.out (hbl.out _)
end Go.Proofs.Ytodjkifcbgmckaa
namespace Go.Proofs.Ytodjkifcbgmckaa
open Go.RowKit Go.Shelf Go.Sort
set_option maxRecDepth 100000

theorem cable_few : ∀ a b : Fin 7, 1 ≤ a.val → 1 ≤ b.val → a.val + b.val ≤ 8 → fewE ⟨toC a.val b.val, frC true a.val b.val (a.val + b.val)⟩ = ((1, 0), 0) ∧ fewE ⟨toC a.val b.val, frC false a.val b.val (a.val + b.val)⟩ = ((0, 1), 0) := by
  decide +kernel
theorem ok_cable1 {s : Stc} (h : s.err = 0) (hk : s.kind = 6 ∨ s.kind = 7) : 1 ≤ s.a ∧ s.a ≤ 6 ∧ 1 ≤ s.b ∧ s.b ≤ 6 := by
  unfold Stc.err at h
  split at h
  · rename_i ho
    unfold Stc.ok at ho
    simp only [Bool.and_eq_true, decide_eq_true_iff] at ho
    rcases hk with hk | hk
    · rw [hk] at ho
      have h1 := ho.2.1; have h2 := ho.2.2.1
      have e : (formI 6).a0 = 1 ∧ (formI 6).a1 = 6 ∧ (formI 6).b0 = 1 ∧ (formI 6).b1 = 6 := by decide
      omega
    · rw [hk] at ho
      have h1 := ho.2.1; have h2 := ho.2.2.1
      have e : (formI 7).a0 = 1 ∧ (formI 7).a1 = 6 ∧ (formI 7).b0 = 1 ∧ (formI 7).b1 = 6 := by decide
      omega
  · cases h
theorem deep_more {ns : List Int} {m a : Int} (h : a < (ns.length : Int)) : deepI (ns ++ [m]) a = deepI ns a := by
  unfold deepI
  split
  · rfl
  · rename_i h0
    rw [List.getD_eq_getElem?_getD, List.getD_eq_getElem?_getD, List.getElem?_append_left (by omega)]
theorem okP_more {b : Brd} {ns plan : List Int} {m : Int} {x : Nat} (hx : x < plan.length) (h : ∀ a ∈ plan, a < (ns.length : Int)) : okP b (ns ++ [m]) plan x = okP b ns plan x := by
  have hd : ∀ j, j < plan.length → deepI (ns ++ [m]) (plan.getD j 0) = deepI ns (plan.getD j 0) := fun j hj => by
    rw [List.getD_eq_getElem?_getD, List.getElem?_eq_getElem hj]
    exact deep_more (h _ (List.getElem_mem hj))
  unfold okP
  congr 1
  rw [decide_eq_decide]
  constructor
  · intro H y hy hc
    have := H y hy hc
    rw [hd x hx, hd y (by omega)] at this
    exact this
  · intro H y hy hc
    rw [hd x hx, hd y (by omega)]
    exact H y hy hc
theorem fits_more {b : Brd} {ns : List Int} {m : Int} : ∀ {p pre : List Int}, (∀ a ∈ pre, a < (ns.length : Int)) → fitsL ns.length (okL b ns) pre p → fitsL (ns ++ [m]).length (okL b (ns ++ [m])) pre p
  | [], _, _, _ => trivial
  | a :: r, pre, hpre, ⟨h1, h2, h3, h4⟩ => by
    have hp' : ∀ y ∈ pre ++ [a], y < (ns.length : Int) := fun y hy => by
      rcases List.mem_append.1 hy with hy | hy
      · exact hpre y hy
      · rw [List.mem_singleton.1 hy]; exact h2
    refine ⟨h1, by rw [List.length_append, List.length_singleton]; omega, ?_, fits_more hp' h4⟩
    unfold okL at h3 ⊢
    rw [okP_more (by simp) hp']
    exact h3
/-- More needles never hurt. -/
theorem plan_more {b : Brd} {ns : List Int} {more : Int} (hE : brdE b = 0) (hc : cabB ns = true) (hc2 : cabB (ns ++ [more]) = true) (h : (planE b ns).2 = 0) : (planE b (ns ++ [more])).2 = 0 := by
  cases hs : sea ns.length (okL b ns) b.to_.length [] with
  | none => rw [plan_none hE hc hs] at h; cases h
  | some q =>
    obtain ⟨p, e, hl, hf⟩ := sea_sound hs
    obtain ⟨p2, h2, -, -⟩ := sea_first (k := (ns ++ [more]).length) (P := okL b (ns ++ [more])) hl (fits_more (fun a ha => absurd ha List.not_mem_nil) hf)
    rw [plan_some hE hc2 h2]
end Go.Proofs.Ytodjkifcbgmckaa
namespace Go.Proofs.Ytodjkifcbgmckaa
open Go.RowKit Go.Shelf Go.Sort
set_option maxRecDepth 100000

theorem rowL_copyR {w : World} {Ap : Option Addr} {cp : Nat} {plan : List Int} (h : SlI w w.heap.size Ap plan) (hl : plan.length * 8 ≤ 140737488351232) :
    ∃ A' c' w', (Builtin.append_ #[22, 22] 22 #[.slice (some ⟨w.heap.size, 0, none⟩) 0 0, .slice Ap plan.length cp]).run Try.prog (w.alloc (.cells #[] 3)) = .ok (.slice A' plan.length c') w' ∧ rowL w' w.heap.size A' c' plan ∧ Below w.heap.size w w' := by
  obtain ⟨ii, hii, hii0, hii1, hii2⟩ := info_parts info_int'
  have hba : Below w.heap.size w (w.alloc (.cells #[] 3)) := (Below.refl _ w).alloc (Nat.le_refl _) _
  have hsz := hba.size
  have ho : (w.alloc (.cells #[] 3)).ownsRow w.heap.size 3 1 (.slice (some ⟨w.heap.size, 0, none⟩) 0 0) 0 [] := by
    have h := World.ownsRow_lit (e := 3) (base := w.heap.size) (size := 1) w #[] 0 (Nat.le_refl _) (by decide) rfl
    exact h
  obtain ⟨A', c', w', hr, ho1, hg1, -⟩ := run_app_any Try.underlying22 hii hii0 hii1 hii2 rfl (by decide) ho Ap plan.length cp (intV plan) (by unfold intV; simp) (fun e => by
      cases plan with
      | nil => rfl
      | cons x r => obtain ⟨b, off, e', -⟩ := h (by simp); rw [e] at e'; cases e') (fun ad e j u hu => by
      have hj : j < plan.length := by have := (List.getElem?_eq_some_iff.1 hu).1; unfold intV at this; simpa using this
      obtain ⟨b, off, e', hB, hc⟩ := h (fun e2 => by subst e2; simp at hj)
      rw [e] at e'; cases e'
      unfold intV at hu
      rw [List.getElem?_map, List.getElem?_eq_getElem hj] at hu
      simp only [Option.map_some, Option.some.injEq] at hu
      subst hu
      rw [add_lit]
      exact (bcell hba hB _).trans (hc j _ (List.getElem?_eq_getElem hj))) (by intro u hu; unfold intV at hu; obtain ⟨x, -, rfl⟩ := List.mem_map.1 hu; rfl) (by unfold maxLen; omega) (by omega) (by omega)
  rw [Nat.zero_add] at hr ho1
  refine ⟨A', c', w', hr, ?_, hba.trans (Below.of_grown hg1 (by omega) (fun k e => (World.ownsRow.lt ho k e).1))⟩
  unfold rowL
  rw [List.nil_append] at ho1
  exact ho1
theorem rowL_pushR {w : World} {B c : Nat} {A : Option Addr} {l : List Int} (h : rowL w B A c l) (hB : B ≤ w.heap.size) (hl : l.length * 8 ≤ 140737488351232) (x : Int) :
    ∃ A' c' w', (Builtin.append_ #[22, 22] 22 #[.slice A l.length c, .slice (some ⟨w.heap.size, 0, none⟩) 1 1]).run Try.prog (w.alloc (.cells #[.int .i64 x] 3)) = .ok (.slice A' (l.length + 1) c') w' ∧ rowL w' B A' c' (l ++ [x]) ∧ Below B w w' := by
  obtain ⟨ii, hii, hii0, hii1, hii2⟩ := info_parts info_int'
  have hba : Below w.heap.size w (w.alloc (.cells #[.int .i64 x] 3)) := (Below.refl _ w).alloc (Nat.le_refl _) _
  have ho : (w.alloc (.cells #[.int .i64 x] 3)).ownsRow B 3 1 (.slice A l.length c) l.length (intV l) := own_below h hba (Nat.le_refl _)
  have hsz := hba.size
  have hnew : ∀ j u, [Value.int .i64 x][j]? = some u → (w.alloc (.cells #[.int .i64 x] 3)).cell? ((⟨w.heap.size, 0, none⟩ : Addr).add j) = some u := newsT w _ _ _ rfl
  obtain ⟨A', c', w', hr, ho1, hg1, -⟩ := run_app_any Try.underlying22 hii hii0 hii1 hii2 rfl (by decide) ho (some ⟨w.heap.size, 0, none⟩) 1 1 [.int .i64 x] rfl (fun e => by cases e) (fun ad e => by cases e; exact hnew) (by intro u hu; simp at hu; subst hu; rfl) (by unfold maxLen; omega) (by omega) (by omega)
  refine ⟨A', c', w', hr, ?_, (hba.mono hB).trans (Below.of_grown hg1 (by omega) (fun k e => (World.ownsRow.lt ho k e).1))⟩
  unfold rowL
  rw [List.length_append, List.length_singleton]
  have e : intV (l ++ [x]) = intV l ++ [.int .i64 x] := by unfold intV; rw [List.map_append]; rfl
  rw [e]
  exact ho1
structure BrBx (pb : Nat) (A F : Option Addr) (c fc : Nat) (to_ : List Int) (fr : List (Int × Int)) (W : World) : Prop where
  c0 : W.cell? ⟨pb, 0, none⟩ = some (.slice A to_.length c)
  c1 : W.cell? ⟨pb, 1, none⟩ = some (.slice F fr.length fc)
  tz : SlI W W.heap.size A to_
  fr : SlPr W W.heap.size F fr
theorem BrBx.to {pb : Nat} {A F : Option Addr} {c fc : Nat} {to_ : List Int} {fr : List (Int × Int)} {W W' : World} (h : BrBx pb A F c fc to_ fr W) (hb : Below W.heap.size W W') : BrBx pb A F c fc to_ fr W' :=
  ⟨(bcell hb (lt_of_cell h.c0) _).trans h.c0, (bcell hb (lt_of_cell h.c1) _).trans h.c1, (h.tz.below hb).more hb.size, (h.fr.below hb).more hb.size⟩
theorem BrBx.new {A F : Option Addr} {c fc : Nat} {to_ : List Int} {fr : List (Int × Int)} {W : World} (h : SlI W W.heap.size A to_) (h' : SlPr W W.heap.size F fr) : BrBx W.heap.size A F c fc to_ fr (W.alloc (.cells #[.slice A to_.length c, .slice F fr.length fc] 26)) :=
  ⟨cell_new rfl rfl rfl, cell_new rfl rfl rfl, (h.below ((Below.refl _ W).alloc (Nat.le_refl _) _)).more (by simp), (h'.below ((Below.refl _ W).alloc (Nat.le_refl _) _)).more (by simp)⟩
theorem rcables_all2 (A : Option Addr) (c : Nat) (l : List Int) (w : World) (hs : SlI w w.heap.size A l) :
    Calls Try.prog 30 #[.slice A l.length c] w fun e w' => e = .returned (.bool (cabB l)) ∧ Below w.heap.size w w' := by
  by_cases h4 : 4 < l.length
  · have HF : Hid (cabB l = false) := cab_long h4
    have e4 : decide (4 < l.length) = true := decide_eq_true h4
    have e4' : decide ((4 : Int) < (l.length : Int)) = true := decide_eq_true (by omega)
    clear hs h4
    go_enter Try.func30, Try.ntmps30
    go_wp2
    go_ret
    exact ⟨ret_bool HF.out.symm, Below.refl _ _⟩
  · exact rcables_any A c l (by omega) w hs
theorem cab_len2 {l : List Int} (h : cabB l = true) : l.length ≤ 4 := by
  rcases Nat.lt_or_ge 4 l.length with h4 | h4
  · rw [cab_long h4] at h; cases h
  · exact h4
theorem of_lens2 (s : Stc) : (ofE s).1.fronts.length ≤ 64 := by
  unfold ofE
  split
  · simp
  · rename_i h1
    split
    · simp
    · rename_i h2
      split
      · simp
      · rename_i h3
        obtain ⟨a0, a1, b0, b1⟩ := ok_cable (s := s) (Classical.not_not.1 h1) (by omega)
        have h4 := frC_len (decide (s.kind = 6)) s.a.toNat s.b.toNat (s.a.toNat + s.b.toNat)
        have h5 : (s.a.toNat + s.b.toNat) * s.b.toNat ≤ 8 * 8 := Nat.mul_le_mul (by omega) (by omega)
        show (frC _ _ _ _).length ≤ 64
        omega
/-- The law's braid and list as they lie. -/
structure CbA (w : World) (A F : Option Addr) (c fc : Nat) (b : Brd) (An : Option Addr) (ns : List Int) (W : World) : Prop where
  lo : Below w.heap.size w W
  br : BrBx (w.heap.size + 1) A F c fc b.to_ b.fronts W
  ns : SlI W W.heap.size An ns
theorem CbA.to {w W W' : World} {A F : Option Addr} {c fc : Nat} {b : Brd} {An : Option Addr} {ns : List Int} (h : CbA w A F c fc b An ns W) (hb : Below W.heap.size W W') : CbA w A F c fc b An ns W' :=
  ⟨h.lo.trans (hb.mono h.lo.size), h.br.to hb, (h.ns.below hb).more hb.size⟩
/-- The stitch in its box. -/
def StB2 (pb : Nat) (kind : Int) (purl : Bool) (sa sb : Int) (W : World) : Prop := W.cell? ⟨pb, 0, none⟩ = some (.int .u8 kind) ∧ W.cell? ⟨pb, 1, none⟩ = some (.bool purl) ∧ W.cell? ⟨pb, 2, none⟩ = some (.int .i64 sa) ∧ W.cell? ⟨pb, 3, none⟩ = some (.int .i64 sb)
theorem StB2.to {pb : Nat} {kind : Int} {purl : Bool} {sa sb : Int} {W W' : World} (h : StB2 pb kind purl sa sb W) (hb : Below W.heap.size W W') : StB2 pb kind purl sa sb W' :=
  ⟨(bcell hb (lt_of_cell h.1) _).trans h.1, (bcell hb (lt_of_cell h.1) _).trans h.2.1, (bcell hb (lt_of_cell h.1) _).trans h.2.2.1, (bcell hb (lt_of_cell h.1) _).trans h.2.2.2⟩
theorem ofE_cable {s : Stc} (h : s.err = 0) (hk : s.kind = 6 ∨ s.kind = 7) (h8 : s.a + s.b ≤ 8) : (ofE s).2 = 0 ∧ fewE (ofE s).1 = (if s.kind = 6 then ((1, 0), 0) else ((0, 1), 0)) := by
  obtain ⟨a1, a6, b1, b6⟩ := ok_cable1 h hk
  have e : ofE s = (⟨toC s.a.toNat s.b.toNat, frC (decide (s.kind = 6)) s.a.toNat s.b.toNat (s.a.toNat + s.b.toNat)⟩, 0) := by
    unfold ofE; rw [if_neg (by rw [h]; decide), if_neg (by omega), if_neg (by omega)]
  have hc := cable_few ⟨s.a.toNat, by omega⟩ ⟨s.b.toNat, by omega⟩ (by show 1 ≤ s.a.toNat; omega) (by show 1 ≤ s.b.toNat; omega) (by show s.a.toNat + s.b.toNat ≤ 8; omega)
  rw [e]
  refine ⟨rfl, ?_⟩
  rcases hk with hk | hk
  · rw [hk, if_pos rfl]; exact hc.1
  · rw [hk, if_neg (by decide)]; exact hc.2
set_option maxHeartbeats 64000000 in
theorem cables_walk (s : Stc) (hw : s.wf) (A F : Option Addr) (c fc : Nat) (b : Brd) (hf : b.fronts.length ≤ maxLen) (An : Option Addr) (cn : Nat) (ns : List Int) (hlen : ns.length * 8 ≤ 140737488351232) (more : Int) (w : World) (hs : SlI w w.heap.size A b.to_) (hp : SlPr w w.heap.size F b.fronts) (hns : SlI w w.heap.size An ns) :
    Calls Try.prog 7 #[s.val, .agg #[.slice A b.to_.length c, .slice F b.fronts.length fc], .slice An ns.length cn, .int .i64 more] w fun e w' => e = .returned (.bool true) ∧ Below w.heap.size w w' := by
  have HK0 := Lib.hid (fun W => rscheck_any s W)
  have HOf := Lib.hid (fun W => hof_any s hw W)
  have HOe := Lib.hid (fun h hk h8 => ofE_cable (s := s) h hk h8)
  have HOl := Lib.hid (of_lens2 s)
  obtain ⟨r, hr⟩ : ∃ r, r = ofE s := ⟨_, rfl⟩
  rw [← hr] at HOf HOe HOl
  clear hr
  obtain ⟨er, her⟩ : ∃ er, er = s.err := ⟨_, rfl⟩
  have HKa := Lib.hid (fun h hk => ok_cable1 (s := s) h hk)
  rw [← her] at HK0 HOe HKa
  clear her
  obtain ⟨kind, purl, sa, sb⟩ := s
  obtain ⟨x, xe⟩ := r
  replace HOe : Hid (er = 0 → (kind = 6 ∨ kind = 7) → sa + sb ≤ 8 → xe = 0 ∧ fewE x = (if kind = 6 then ((1, 0), 0) else ((0, 1), 0))) := HOe
  replace HKa : Hid (er = 0 → (kind = 6 ∨ kind = 7) → 1 ≤ sa ∧ sa ≤ 6 ∧ 1 ≤ sb ∧ sb ≤ 6) := HKa
  replace HOl : Hid (x.fronts.length ≤ 64) := HOl
  show Calls Try.prog 7 #[.agg #[.int .u8 kind, .bool purl, .int .i64 sa, .int .i64 sb], .agg #[.slice A b.to_.length c, .slice F b.fronts.length fc], .slice An ns.length cn, .int .i64 more] w _
  replace HK0 : Hid (∀ W, Calls Try.prog 31 #[.agg #[.int .u8 kind, .bool purl, .int .i64 sa, .int .i64 sb]] W fun e w' => RetE er W e w') := HK0
  replace HOf : Hid (∀ W, Calls Try.prog 15 #[.agg #[.int .u8 kind, .bool purl, .int .i64 sa, .int .i64 sb]] W fun e w' => brdOut (x, xe) W e w') := HOf
  have hf' : b.fronts.length ≤ 9223372036854775807 := by unfold maxLen at hf; omega
  have HCk : Hid (∀ W, CbA w A F c fc b An ns W → Calls Try.prog 20 #[.agg #[.slice A b.to_.length c, .slice F b.fronts.length fc]] W fun e w' => e = .returned (.int .i64 (brdE b)) ∧ Below W.heap.size W w') := fun W h => rcheck_big A F c fc b hf' W h.br.tz h.br.fr
  have HCb : Hid (∀ W, CbA w A F c fc b An ns W → Calls Try.prog 30 #[.slice An ns.length cn] W fun e w' => e = .returned (.bool (cabB ns)) ∧ Below W.heap.size W w') := fun W h => rcables_all2 An cn ns W h.ns
  have hb1 := (Below.refl w.heap.size w).alloc (Nat.le_refl _) (.cells #[.int .u8 kind, .bool purl, .int .i64 sa, .int .i64 sb] 35)
  have hS1 : StB2 w.heap.size kind purl sa sb (w.alloc (.cells #[.int .u8 kind, .bool purl, .int .i64 sa, .int .i64 sb] 35)) := ⟨cell_new rfl rfl rfl, cell_new rfl rfl rfl, cell_new rfl rfl rfl, cell_new rfl rfl rfl⟩
  have hb2 := (Below.refl (w.alloc (.cells #[.int .u8 kind, .bool purl, .int .i64 sa, .int .i64 sb] 35)).heap.size (w.alloc (.cells #[.int .u8 kind, .bool purl, .int .i64 sa, .int .i64 sb] 35))).alloc (Nat.le_refl _) (.cells #[.slice A b.to_.length c, .slice F b.fronts.length fc] 26)
  have HX : Hid (CbA w A F c fc b An ns ((w.alloc (.cells #[.int .u8 kind, .bool purl, .int .i64 sa, .int .i64 sb] 35)).alloc (.cells #[.slice A b.to_.length c, .slice F b.fronts.length fc] 26)) ∧ StB2 w.heap.size kind purl sa sb ((w.alloc (.cells #[.int .u8 kind, .bool purl, .int .i64 sa, .int .i64 sb] 35)).alloc (.cells #[.slice A b.to_.length c, .slice F b.fronts.length fc] 26))) := by
    refine ⟨⟨hb1.trans (hb2.mono hb1.size), ?_, (hns.below (hb1.trans (hb2.mono hb1.size))).more (hb1.trans (hb2.mono hb1.size)).size⟩, hS1.to hb2⟩
    have e : (w.alloc (.cells #[.int .u8 kind, .bool purl, .int .i64 sa, .int .i64 sb] 35)).heap.size = w.heap.size + 1 := by simp
    rw [← e]
    exact BrBx.new ((hs.below hb1).more hb1.size) ((hp.below hb1).more hb1.size)
  clear hb1 hb2 hS1 hs hp hns hf hf' hw
  go_enter Try.func7, Try.ntmps7
  go_upto_region 1 with fail
  refine abs_world (Q := fun W => Code.wp _ _ _ _ W) (F := fun W => CbA w A F c fc b An ns W ∧ StB2 w.heap.size kind purl sa sb W) _ HX.out ?_
  try simp only [World.size_alloc]
  clear HX
  rintro W1 ⟨hA1, hS1⟩
  have HA1 := Lib.hid hA1
  have HS1 := Lib.hid hS1
  have HAv := Lib.hid (alive29_any W1)
  clear hA1 hS1
  go_upto_region 4 with ((go_at_call 29; refine HAv.out.mono ?_; rintro e w2 ⟨rfl, hb2⟩))
  refine abs_world (Q := fun W => Code.wp _ _ _ _ W) (F := fun W => CbA w A F c fc b An ns W ∧ StB2 w.heap.size kind purl sa sb W) _ ⟨HA1.out.to hb2, HS1.out.to hb2⟩ ?_
  clear hb2 HA1 HS1 HAv
  rintro W3 ⟨hA3, hS3⟩
  obtain ⟨s0, s1, s2, s3⟩ := hS3
  have HA3 := Lib.hid hA3
  have HS3 : Hid (StB2 w.heap.size kind purl sa sb W3) := ⟨s0, s1, s2, s3⟩
  have HK := Lib.hid (HK0.out W3)
  clear hA3 HK0
  by_cases he : er = 0
  case neg =>
    have d0 : (er == 0) = false := by simpa using he
    clear he HOe HKa HOf HOl
    go_upto_region 12 with ((go_at_call 31; refine HK.out.mono ?_; rintro e w4 ⟨rfl, hb4⟩; obtain ⟨t0, t1, t2, t3⟩ := HS3.out.to hb4))
    refine abs_world (Q := fun W => Code.wp _ _ _ _ W) (F := fun W => CbA w A F c fc b An ns W) _ (HA3.out.to hb4) ?_
    clear hb4 HA3 HS3 HK s0 s1 s2 s3 t0 t1 t2 t3 d0
    rintro W5 hA5
    obtain ⟨A1, c1, w6, hr1, hrow1, hb6⟩ := rowL_copyR (cp := cn) hA5.ns (by omega)
    have hsz6 := hb6.size
    obtain ⟨A2, c2, w7, hr2, hrow2, hb7⟩ := rowL_pushR hrow1 hsz6 (by omega) more
    have HX : Hid (CbA w A F c fc b An ns w7 ∧ SlI w7 w7.heap.size A2 (ns ++ [more])) := ⟨hA5.to (hb6.trans hb7), rowL_sl hrow2⟩
    clear hrow1 hb6 hsz6 hrow2 hb7 hA5
    go_upto_region 13 with (at_builtin; refine wpList_append_run _ rfl _ _ _ _ rfl _ _ (by rfl) (by rfl) (by first | exact hr1 | exact hr2) ?_)
    refine abs_world (Q := fun W => Code.wp _ _ _ _ W) (F := fun W => CbA w A F c fc b An ns W ∧ SlI W W.heap.size A2 (ns ++ [more])) _ HX.out ?_
    clear HX hr1 hr2 hlen
    rintro W8 ⟨hA8, hs8⟩
    obtain ⟨g0, g1⟩ := And.intro hA8.br.c0 hA8.br.c1
    have HA8 := Lib.hid hA8
    have HS8 := Lib.hid hs8
    have HCk8 := Lib.hid (HCk.out W8 hA8)
    have HCb2 : Hid (∀ W, Below W8.heap.size W8 W → Calls Try.prog 30 #[.slice A2 (ns.length + 1) c2] W fun e w' => e = .returned (.bool (cabB (ns ++ [more]))) ∧ Below W.heap.size W w') := fun W hb => by
      have h := rcables_all2 A2 c2 (ns ++ [more]) W ((hs8.below hb).more hb.size)
      rw [List.length_append, List.length_singleton] at h
      exact h
    clear hA8 hs8
    by_cases hE : brdE b = 0
    case neg =>
      have e1 : (brdE b != 0) = true := by simpa using hE
      have e2 : (brdE b == 0) = false := by simpa using hE
      clear hE
      go_wp2_with ((go_at_call 20; refine HCk8.out.mono ?_; rintro e w9 ⟨rfl, hb9⟩))
      go_ret
      exact ⟨rfl, HA8.out.lo.trans (hb9.mono HA8.out.lo.size)⟩
    rw [hE] at HCk8
    cases hcb : cabB ns with
    | false =>
      rw [hcb] at HCb
      clear hcb hE
      go_wp2_with (first
        | (go_at_call 20; refine HCk8.out.mono ?_; rintro e w9 ⟨rfl, hb9⟩)
        | (go_at_call_of 30 (Value.slice An ns.length cn); refine (HCb.out _ (HA8.out.to hb9)).mono ?_; rintro e w10 ⟨rfl, hb10⟩))
      go_ret
      exact ⟨rfl, HA8.out.lo.trans ((hb9.trans (hb10.mono hb9.size)).mono HA8.out.lo.size)⟩
    | true =>
    rw [hcb] at HCb
    cases hcb2 : cabB (ns ++ [more]) with
    | false =>
      rw [hcb2] at HCb2
      clear hcb hcb2 hE
      go_wp2_with (first
        | (go_at_call 20; refine HCk8.out.mono ?_; rintro e w9 ⟨rfl, hb9⟩)
        | (go_at_call_of 30 (Value.slice An ns.length cn); refine (HCb.out _ (HA8.out.to hb9)).mono ?_; rintro e w10 ⟨rfl, hb10⟩)
        | (go_at_call_of 30 A2; refine (HCb2.out _ (hb9.trans (hb10.mono hb9.size))).mono ?_; rintro e w11 ⟨rfl, hb11⟩))
      go_ret
      have hb := hb9.trans (hb10.mono hb9.size)
      exact ⟨rfl, HA8.out.lo.trans ((hb.trans (hb11.mono hb.size)).mono HA8.out.lo.size)⟩
    | true =>
    rw [hcb2] at HCb2
    obtain ⟨k8, kp, kf⟩ := brdE_zero hE
    have hfl : b.fronts.length ≤ 4611686018427387904 := Nat.le_trans (fr_len k8 kf) (by decide)
    have hns4 := cab_len2 hcb
    have hns5 := cab_len2 hcb2
    rw [List.length_append, List.length_singleton] at hns5
    have HP1 : Hid (∀ W, CbA w A F c fc b An ns W → Calls Try.prog 21 #[.agg #[.slice A b.to_.length c, .slice F b.fronts.length fc], .slice An ns.length cn] W fun e w' => ∃ A' c', e = .returned (.tuple #[.slice A' (planE b ns).1.length c', .int .i64 (planE b ns).2]) ∧ rowL w' W.heap.size A' c' (planE b ns).1 ∧ Below W.heap.size W w') := fun W h => hplan_any A F c fc b hfl An cn ns (by omega) W h.br.tz h.br.fr h.ns
    have HP2 : Hid (∀ W, CbA w A F c fc b An ns W → SlI W W.heap.size A2 (ns ++ [more]) → Calls Try.prog 21 #[.agg #[.slice A b.to_.length c, .slice F b.fronts.length fc], .slice A2 (ns.length + 1) c2] W fun e w' => ∃ A' c', e = .returned (.tuple #[.slice A' (planE b (ns ++ [more])).1.length c', .int .i64 (planE b (ns ++ [more])).2]) ∧ rowL w' W.heap.size A' c' (planE b (ns ++ [more])).1 ∧ Below W.heap.size W w') := fun W h h2 => by
      have h3 := hplan_any A F c fc b hfl A2 c2 (ns ++ [more]) (by rw [List.length_append, List.length_singleton]; omega) W h.br.tz h.br.fr h2
      rw [List.length_append, List.length_singleton] at h3
      exact h3
    have HM : Hid ((planE b ns).2 = 0 → (planE b (ns ++ [more])).2 = 0) := fun h => plan_more hE hcb hcb2 h
    obtain ⟨⟨q1, x1⟩, hq1⟩ : ∃ y, y = planE b ns := ⟨_, rfl⟩
    obtain ⟨⟨q2, x2⟩, hq2⟩ : ∃ y, y = planE b (ns ++ [more]) := ⟨_, rfl⟩
    rw [← hq1] at HP1 HM
    rw [← hq2] at HP2 HM
    replace HM : Hid (x1 = 0 → x2 = 0) := HM
    clear hq1 hq2 kp kf k8 hfl hns4 hns5 hE hcb hcb2
    go_upto_region 15 with (first
      | (go_at_call 20; refine HCk8.out.mono ?_; rintro e w9 ⟨rfl, hb9⟩)
      | (go_at_call_of 30 (Value.slice An ns.length cn); refine (HCb.out _ (HA8.out.to hb9)).mono ?_; rintro e w10 ⟨rfl, hb10⟩)
      | (go_at_call_of 30 A2; refine (HCb2.out _ (hb9.trans (hb10.mono hb9.size))).mono ?_; rintro e w11 ⟨rfl, hb11⟩))
    have hb := hb9.trans (hb10.mono hb9.size)
    have hb' := hb.trans (hb11.mono hb.size)
    refine abs_world (Q := fun W => Code.wp _ _ _ _ W) (F := fun W => CbA w A F c fc b An ns W ∧ SlI W W.heap.size A2 (ns ++ [more])) _ ⟨HA8.out.to hb', (HS8.out.below hb').more hb'.size⟩ ?_
    clear hb hb' hb9 hb10 hb11 HA8 HS8 HCk8 HCk HCb HCb2 g0 g1
    rintro W12 ⟨hA12, hs12⟩
    obtain ⟨g0, g1⟩ := And.intro hA12.br.c0 hA12.br.c1
    have HA12 := Lib.hid hA12
    have HS12 := Lib.hid hs12
    clear hA12 hs12
    go_upto_region 16 with ((go_at_call 21; refine (HP1.out _ HA12.out).mono ?_; rintro e w13 ⟨Aq, cq, rfl, -, hb13⟩))
    refine abs_world (Q := fun W => Code.wp _ _ _ _ W) (F := fun W => CbA w A F c fc b An ns W ∧ SlI W W.heap.size A2 (ns ++ [more])) _ ⟨HA12.out.to hb13, (HS12.out.below hb13).more hb13.size⟩ ?_
    clear hb13 HA12 HS12 HP1 g0 g1
    rintro W14 ⟨hA14, hs14⟩
    obtain ⟨g0, g1⟩ := And.intro hA14.br.c0 hA14.br.c1
    have HA14 := Lib.hid hA14
    have HS14 := Lib.hid hs14
    clear hA14 hs14
    by_cases hx1 : x1 = 0
    case pos =>
      have hx2 := HM.out hx1
      have d1 : (x1 != 0) = false := by simp [hx1]
      have d2 : (x2 == 0) = true := by simp [hx2]
      clear hx1 hx2 HM
      go_wp2_with ((go_at_call 21; refine (HP2.out _ HA14.out HS14.out).mono ?_; rintro e w15 ⟨Ar, cr, rfl, -, hb15⟩))
      go_ret
      exact ⟨rfl, HA14.out.lo.trans (hb15.mono HA14.out.lo.size)⟩
    case neg =>
      have d1 : (x1 != 0) = true := by simpa using hx1
      clear hx1 HM
      go_wp2_with ((go_at_call 21; refine (HP2.out _ HA14.out HS14.out).mono ?_; rintro e w15 ⟨Ar, cr, rfl, -, hb15⟩))
      go_ret
      exact ⟨rfl, HA14.out.lo.trans (hb15.mono HA14.out.lo.size)⟩
  subst he
  by_cases hk6 : kind = 6
  case neg =>
    have d1 : (kind == 6) = false := by simpa using hk6
    by_cases hk7 : kind = 7
    case neg =>
      have d2 : (kind == 7) = false := by simpa using hk7
      clear hk6 hk7 HOe HKa HOf HOl
      go_upto_region 12 with ((go_at_call 31; refine HK.out.mono ?_; rintro e w4 ⟨rfl, hb4⟩; obtain ⟨t0, t1, t2, t3⟩ := HS3.out.to hb4))
      refine abs_world (Q := fun W => Code.wp _ _ _ _ W) (F := fun W => CbA w A F c fc b An ns W) _ (HA3.out.to hb4) ?_
      clear hb4 HA3 HS3 HK s0 s1 s2 s3 t0 t1 t2 t3 d1 d2
      rintro W5 hA5
      obtain ⟨A1, c1, w6, hr1, hrow1, hb6⟩ := rowL_copyR (cp := cn) hA5.ns (by omega)
      have hsz6 := hb6.size
      obtain ⟨A2, c2, w7, hr2, hrow2, hb7⟩ := rowL_pushR hrow1 hsz6 (by omega) more
      have HX : Hid (CbA w A F c fc b An ns w7 ∧ SlI w7 w7.heap.size A2 (ns ++ [more])) := ⟨hA5.to (hb6.trans hb7), rowL_sl hrow2⟩
      clear hrow1 hb6 hsz6 hrow2 hb7 hA5
      go_upto_region 13 with (at_builtin; refine wpList_append_run _ rfl _ _ _ _ rfl _ _ (by rfl) (by rfl) (by first | exact hr1 | exact hr2) ?_)
      refine abs_world (Q := fun W => Code.wp _ _ _ _ W) (F := fun W => CbA w A F c fc b An ns W ∧ SlI W W.heap.size A2 (ns ++ [more])) _ HX.out ?_
      clear HX hr1 hr2 hlen
      rintro W8 ⟨hA8, hs8⟩
      obtain ⟨g0, g1⟩ := And.intro hA8.br.c0 hA8.br.c1
      have HA8 := Lib.hid hA8
      have HS8 := Lib.hid hs8
      have HCk8 := Lib.hid (HCk.out W8 hA8)
      have HCb2 : Hid (∀ W, Below W8.heap.size W8 W → Calls Try.prog 30 #[.slice A2 (ns.length + 1) c2] W fun e w' => e = .returned (.bool (cabB (ns ++ [more]))) ∧ Below W.heap.size W w') := fun W hb => by
        have h := rcables_all2 A2 c2 (ns ++ [more]) W ((hs8.below hb).more hb.size)
        rw [List.length_append, List.length_singleton] at h
        exact h
      clear hA8 hs8
      by_cases hE : brdE b = 0
      case neg =>
        have e1 : (brdE b != 0) = true := by simpa using hE
        have e2 : (brdE b == 0) = false := by simpa using hE
        clear hE
        go_wp2_with ((go_at_call 20; refine HCk8.out.mono ?_; rintro e w9 ⟨rfl, hb9⟩))
        go_ret
        exact ⟨rfl, HA8.out.lo.trans (hb9.mono HA8.out.lo.size)⟩
      rw [hE] at HCk8
      cases hcb : cabB ns with
      | false =>
        rw [hcb] at HCb
        clear hcb hE
        go_wp2_with (first
          | (go_at_call 20; refine HCk8.out.mono ?_; rintro e w9 ⟨rfl, hb9⟩)
          | (go_at_call_of 30 (Value.slice An ns.length cn); refine (HCb.out _ (HA8.out.to hb9)).mono ?_; rintro e w10 ⟨rfl, hb10⟩))
        go_ret
        exact ⟨rfl, HA8.out.lo.trans ((hb9.trans (hb10.mono hb9.size)).mono HA8.out.lo.size)⟩
      | true =>
      rw [hcb] at HCb
      cases hcb2 : cabB (ns ++ [more]) with
      | false =>
        rw [hcb2] at HCb2
        clear hcb hcb2 hE
        go_wp2_with (first
          | (go_at_call 20; refine HCk8.out.mono ?_; rintro e w9 ⟨rfl, hb9⟩)
          | (go_at_call_of 30 (Value.slice An ns.length cn); refine (HCb.out _ (HA8.out.to hb9)).mono ?_; rintro e w10 ⟨rfl, hb10⟩)
          | (go_at_call_of 30 A2; refine (HCb2.out _ (hb9.trans (hb10.mono hb9.size))).mono ?_; rintro e w11 ⟨rfl, hb11⟩))
        go_ret
        have hb := hb9.trans (hb10.mono hb9.size)
        exact ⟨rfl, HA8.out.lo.trans ((hb.trans (hb11.mono hb.size)).mono HA8.out.lo.size)⟩
      | true =>
      rw [hcb2] at HCb2
      obtain ⟨k8, kp, kf⟩ := brdE_zero hE
      have hfl : b.fronts.length ≤ 4611686018427387904 := Nat.le_trans (fr_len k8 kf) (by decide)
      have hns4 := cab_len2 hcb
      have hns5 := cab_len2 hcb2
      rw [List.length_append, List.length_singleton] at hns5
      have HP1 : Hid (∀ W, CbA w A F c fc b An ns W → Calls Try.prog 21 #[.agg #[.slice A b.to_.length c, .slice F b.fronts.length fc], .slice An ns.length cn] W fun e w' => ∃ A' c', e = .returned (.tuple #[.slice A' (planE b ns).1.length c', .int .i64 (planE b ns).2]) ∧ rowL w' W.heap.size A' c' (planE b ns).1 ∧ Below W.heap.size W w') := fun W h => hplan_any A F c fc b hfl An cn ns (by omega) W h.br.tz h.br.fr h.ns
      have HP2 : Hid (∀ W, CbA w A F c fc b An ns W → SlI W W.heap.size A2 (ns ++ [more]) → Calls Try.prog 21 #[.agg #[.slice A b.to_.length c, .slice F b.fronts.length fc], .slice A2 (ns.length + 1) c2] W fun e w' => ∃ A' c', e = .returned (.tuple #[.slice A' (planE b (ns ++ [more])).1.length c', .int .i64 (planE b (ns ++ [more])).2]) ∧ rowL w' W.heap.size A' c' (planE b (ns ++ [more])).1 ∧ Below W.heap.size W w') := fun W h h2 => by
        have h3 := hplan_any A F c fc b hfl A2 c2 (ns ++ [more]) (by rw [List.length_append, List.length_singleton]; omega) W h.br.tz h.br.fr h2
        rw [List.length_append, List.length_singleton] at h3
        exact h3
      have HM : Hid ((planE b ns).2 = 0 → (planE b (ns ++ [more])).2 = 0) := fun h => plan_more hE hcb hcb2 h
      obtain ⟨⟨q1, x1⟩, hq1⟩ : ∃ y, y = planE b ns := ⟨_, rfl⟩
      obtain ⟨⟨q2, x2⟩, hq2⟩ : ∃ y, y = planE b (ns ++ [more]) := ⟨_, rfl⟩
      rw [← hq1] at HP1 HM
      rw [← hq2] at HP2 HM
      replace HM : Hid (x1 = 0 → x2 = 0) := HM
      clear hq1 hq2 kp kf k8 hfl hns4 hns5 hE hcb hcb2
      go_upto_region 15 with (first
        | (go_at_call 20; refine HCk8.out.mono ?_; rintro e w9 ⟨rfl, hb9⟩)
        | (go_at_call_of 30 (Value.slice An ns.length cn); refine (HCb.out _ (HA8.out.to hb9)).mono ?_; rintro e w10 ⟨rfl, hb10⟩)
        | (go_at_call_of 30 A2; refine (HCb2.out _ (hb9.trans (hb10.mono hb9.size))).mono ?_; rintro e w11 ⟨rfl, hb11⟩))
      have hb := hb9.trans (hb10.mono hb9.size)
      have hb' := hb.trans (hb11.mono hb.size)
      refine abs_world (Q := fun W => Code.wp _ _ _ _ W) (F := fun W => CbA w A F c fc b An ns W ∧ SlI W W.heap.size A2 (ns ++ [more])) _ ⟨HA8.out.to hb', (HS8.out.below hb').more hb'.size⟩ ?_
      clear hb hb' hb9 hb10 hb11 HA8 HS8 HCk8 HCk HCb HCb2 g0 g1
      rintro W12 ⟨hA12, hs12⟩
      obtain ⟨g0, g1⟩ := And.intro hA12.br.c0 hA12.br.c1
      have HA12 := Lib.hid hA12
      have HS12 := Lib.hid hs12
      clear hA12 hs12
      go_upto_region 16 with ((go_at_call 21; refine (HP1.out _ HA12.out).mono ?_; rintro e w13 ⟨Aq, cq, rfl, -, hb13⟩))
      refine abs_world (Q := fun W => Code.wp _ _ _ _ W) (F := fun W => CbA w A F c fc b An ns W ∧ SlI W W.heap.size A2 (ns ++ [more])) _ ⟨HA12.out.to hb13, (HS12.out.below hb13).more hb13.size⟩ ?_
      clear hb13 HA12 HS12 HP1 g0 g1
      rintro W14 ⟨hA14, hs14⟩
      obtain ⟨g0, g1⟩ := And.intro hA14.br.c0 hA14.br.c1
      have HA14 := Lib.hid hA14
      have HS14 := Lib.hid hs14
      clear hA14 hs14
      by_cases hx1 : x1 = 0
      case pos =>
        have hx2 := HM.out hx1
        have d1 : (x1 != 0) = false := by simp [hx1]
        have d2 : (x2 == 0) = true := by simp [hx2]
        clear hx1 hx2 HM
        go_wp2_with ((go_at_call 21; refine (HP2.out _ HA14.out HS14.out).mono ?_; rintro e w15 ⟨Ar, cr, rfl, -, hb15⟩))
        go_ret
        exact ⟨rfl, HA14.out.lo.trans (hb15.mono HA14.out.lo.size)⟩
      case neg =>
        have d1 : (x1 != 0) = true := by simpa using hx1
        clear hx1 HM
        go_wp2_with ((go_at_call 21; refine (HP2.out _ HA14.out HS14.out).mono ?_; rintro e w15 ⟨Ar, cr, rfl, -, hb15⟩))
        go_ret
        exact ⟨rfl, HA14.out.lo.trans (hb15.mono HA14.out.lo.size)⟩
    have d2 : (kind == 7) = true := by simpa using hk7
    obtain ⟨a1, a6, b1, b6⟩ := HKa.out rfl (Or.inr hk7)
    by_cases h8 : sa + sb ≤ 8
    case neg =>
      have d3 : decide (sa + sb ≤ 8) = false := decide_eq_false h8
      clear h8 HOe HKa HOf HOl hk6 hk7
      go_upto_region 12 with ((go_at_call 31; refine HK.out.mono ?_; rintro e w4 ⟨rfl, hb4⟩; obtain ⟨t0, t1, t2, t3⟩ := HS3.out.to hb4))
      refine abs_world (Q := fun W => Code.wp _ _ _ _ W) (F := fun W => CbA w A F c fc b An ns W) _ (HA3.out.to hb4) ?_
      clear hb4 HA3 HS3 HK s0 s1 s2 s3 t0 t1 t2 t3 d1 d2 d3 a1 a6 b1 b6
      rintro W5 hA5
      obtain ⟨A1, c1, w6, hr1, hrow1, hb6⟩ := rowL_copyR (cp := cn) hA5.ns (by omega)
      have hsz6 := hb6.size
      obtain ⟨A2, c2, w7, hr2, hrow2, hb7⟩ := rowL_pushR hrow1 hsz6 (by omega) more
      have HX : Hid (CbA w A F c fc b An ns w7 ∧ SlI w7 w7.heap.size A2 (ns ++ [more])) := ⟨hA5.to (hb6.trans hb7), rowL_sl hrow2⟩
      clear hrow1 hb6 hsz6 hrow2 hb7 hA5
      go_upto_region 13 with (at_builtin; refine wpList_append_run _ rfl _ _ _ _ rfl _ _ (by rfl) (by rfl) (by first | exact hr1 | exact hr2) ?_)
      refine abs_world (Q := fun W => Code.wp _ _ _ _ W) (F := fun W => CbA w A F c fc b An ns W ∧ SlI W W.heap.size A2 (ns ++ [more])) _ HX.out ?_
      clear HX hr1 hr2 hlen
      rintro W8 ⟨hA8, hs8⟩
      obtain ⟨g0, g1⟩ := And.intro hA8.br.c0 hA8.br.c1
      have HA8 := Lib.hid hA8
      have HS8 := Lib.hid hs8
      have HCk8 := Lib.hid (HCk.out W8 hA8)
      have HCb2 : Hid (∀ W, Below W8.heap.size W8 W → Calls Try.prog 30 #[.slice A2 (ns.length + 1) c2] W fun e w' => e = .returned (.bool (cabB (ns ++ [more]))) ∧ Below W.heap.size W w') := fun W hb => by
        have h := rcables_all2 A2 c2 (ns ++ [more]) W ((hs8.below hb).more hb.size)
        rw [List.length_append, List.length_singleton] at h
        exact h
      clear hA8 hs8
      by_cases hE : brdE b = 0
      case neg =>
        have e1 : (brdE b != 0) = true := by simpa using hE
        have e2 : (brdE b == 0) = false := by simpa using hE
        clear hE
        go_wp2_with ((go_at_call 20; refine HCk8.out.mono ?_; rintro e w9 ⟨rfl, hb9⟩))
        go_ret
        exact ⟨rfl, HA8.out.lo.trans (hb9.mono HA8.out.lo.size)⟩
      rw [hE] at HCk8
      cases hcb : cabB ns with
      | false =>
        rw [hcb] at HCb
        clear hcb hE
        go_wp2_with (first
          | (go_at_call 20; refine HCk8.out.mono ?_; rintro e w9 ⟨rfl, hb9⟩)
          | (go_at_call_of 30 (Value.slice An ns.length cn); refine (HCb.out _ (HA8.out.to hb9)).mono ?_; rintro e w10 ⟨rfl, hb10⟩))
        go_ret
        exact ⟨rfl, HA8.out.lo.trans ((hb9.trans (hb10.mono hb9.size)).mono HA8.out.lo.size)⟩
      | true =>
      rw [hcb] at HCb
      cases hcb2 : cabB (ns ++ [more]) with
      | false =>
        rw [hcb2] at HCb2
        clear hcb hcb2 hE
        go_wp2_with (first
          | (go_at_call 20; refine HCk8.out.mono ?_; rintro e w9 ⟨rfl, hb9⟩)
          | (go_at_call_of 30 (Value.slice An ns.length cn); refine (HCb.out _ (HA8.out.to hb9)).mono ?_; rintro e w10 ⟨rfl, hb10⟩)
          | (go_at_call_of 30 A2; refine (HCb2.out _ (hb9.trans (hb10.mono hb9.size))).mono ?_; rintro e w11 ⟨rfl, hb11⟩))
        go_ret
        have hb := hb9.trans (hb10.mono hb9.size)
        exact ⟨rfl, HA8.out.lo.trans ((hb.trans (hb11.mono hb.size)).mono HA8.out.lo.size)⟩
      | true =>
      rw [hcb2] at HCb2
      obtain ⟨k8, kp, kf⟩ := brdE_zero hE
      have hfl : b.fronts.length ≤ 4611686018427387904 := Nat.le_trans (fr_len k8 kf) (by decide)
      have hns4 := cab_len2 hcb
      have hns5 := cab_len2 hcb2
      rw [List.length_append, List.length_singleton] at hns5
      have HP1 : Hid (∀ W, CbA w A F c fc b An ns W → Calls Try.prog 21 #[.agg #[.slice A b.to_.length c, .slice F b.fronts.length fc], .slice An ns.length cn] W fun e w' => ∃ A' c', e = .returned (.tuple #[.slice A' (planE b ns).1.length c', .int .i64 (planE b ns).2]) ∧ rowL w' W.heap.size A' c' (planE b ns).1 ∧ Below W.heap.size W w') := fun W h => hplan_any A F c fc b hfl An cn ns (by omega) W h.br.tz h.br.fr h.ns
      have HP2 : Hid (∀ W, CbA w A F c fc b An ns W → SlI W W.heap.size A2 (ns ++ [more]) → Calls Try.prog 21 #[.agg #[.slice A b.to_.length c, .slice F b.fronts.length fc], .slice A2 (ns.length + 1) c2] W fun e w' => ∃ A' c', e = .returned (.tuple #[.slice A' (planE b (ns ++ [more])).1.length c', .int .i64 (planE b (ns ++ [more])).2]) ∧ rowL w' W.heap.size A' c' (planE b (ns ++ [more])).1 ∧ Below W.heap.size W w') := fun W h h2 => by
        have h3 := hplan_any A F c fc b hfl A2 c2 (ns ++ [more]) (by rw [List.length_append, List.length_singleton]; omega) W h.br.tz h.br.fr h2
        rw [List.length_append, List.length_singleton] at h3
        exact h3
      have HM : Hid ((planE b ns).2 = 0 → (planE b (ns ++ [more])).2 = 0) := fun h => plan_more hE hcb hcb2 h
      obtain ⟨⟨q1, x1⟩, hq1⟩ : ∃ y, y = planE b ns := ⟨_, rfl⟩
      obtain ⟨⟨q2, x2⟩, hq2⟩ : ∃ y, y = planE b (ns ++ [more]) := ⟨_, rfl⟩
      rw [← hq1] at HP1 HM
      rw [← hq2] at HP2 HM
      replace HM : Hid (x1 = 0 → x2 = 0) := HM
      clear hq1 hq2 kp kf k8 hfl hns4 hns5 hE hcb hcb2
      go_upto_region 15 with (first
        | (go_at_call 20; refine HCk8.out.mono ?_; rintro e w9 ⟨rfl, hb9⟩)
        | (go_at_call_of 30 (Value.slice An ns.length cn); refine (HCb.out _ (HA8.out.to hb9)).mono ?_; rintro e w10 ⟨rfl, hb10⟩)
        | (go_at_call_of 30 A2; refine (HCb2.out _ (hb9.trans (hb10.mono hb9.size))).mono ?_; rintro e w11 ⟨rfl, hb11⟩))
      have hb := hb9.trans (hb10.mono hb9.size)
      have hb' := hb.trans (hb11.mono hb.size)
      refine abs_world (Q := fun W => Code.wp _ _ _ _ W) (F := fun W => CbA w A F c fc b An ns W ∧ SlI W W.heap.size A2 (ns ++ [more])) _ ⟨HA8.out.to hb', (HS8.out.below hb').more hb'.size⟩ ?_
      clear hb hb' hb9 hb10 hb11 HA8 HS8 HCk8 HCk HCb HCb2 g0 g1
      rintro W12 ⟨hA12, hs12⟩
      obtain ⟨g0, g1⟩ := And.intro hA12.br.c0 hA12.br.c1
      have HA12 := Lib.hid hA12
      have HS12 := Lib.hid hs12
      clear hA12 hs12
      go_upto_region 16 with ((go_at_call 21; refine (HP1.out _ HA12.out).mono ?_; rintro e w13 ⟨Aq, cq, rfl, -, hb13⟩))
      refine abs_world (Q := fun W => Code.wp _ _ _ _ W) (F := fun W => CbA w A F c fc b An ns W ∧ SlI W W.heap.size A2 (ns ++ [more])) _ ⟨HA12.out.to hb13, (HS12.out.below hb13).more hb13.size⟩ ?_
      clear hb13 HA12 HS12 HP1 g0 g1
      rintro W14 ⟨hA14, hs14⟩
      obtain ⟨g0, g1⟩ := And.intro hA14.br.c0 hA14.br.c1
      have HA14 := Lib.hid hA14
      have HS14 := Lib.hid hs14
      clear hA14 hs14
      by_cases hx1 : x1 = 0
      case pos =>
        have hx2 := HM.out hx1
        have d1 : (x1 != 0) = false := by simp [hx1]
        have d2 : (x2 == 0) = true := by simp [hx2]
        clear hx1 hx2 HM
        go_wp2_with ((go_at_call 21; refine (HP2.out _ HA14.out HS14.out).mono ?_; rintro e w15 ⟨Ar, cr, rfl, -, hb15⟩))
        go_ret
        exact ⟨rfl, HA14.out.lo.trans (hb15.mono HA14.out.lo.size)⟩
      case neg =>
        have d1 : (x1 != 0) = true := by simpa using hx1
        clear hx1 HM
        go_wp2_with ((go_at_call 21; refine (HP2.out _ HA14.out HS14.out).mono ?_; rintro e w15 ⟨Ar, cr, rfl, -, hb15⟩))
        go_ret
        exact ⟨rfl, HA14.out.lo.trans (hb15.mono HA14.out.lo.size)⟩
    have d3 : decide (sa + sb ≤ 8) = true := decide_eq_true h8
    obtain ⟨hx0, hfw⟩ := HOe.out rfl (Or.inr hk7) h8
    rw [if_neg hk6] at hfw
    subst hx0
    have HFw : Hid (∀ W Ax Fx cx fcx, SlI W W.heap.size Ax x.to_ → SlPr W W.heap.size Fx x.fronts → Calls Try.prog 23 #[.agg #[.slice Ax x.to_.length cx, .slice Fx x.fronts.length fcx]] W fun e w' => e = .returned (.tuple #[.int .i64 0, .int .i64 1, .int .i64 0]) ∧ Below W.heap.size W w') := fun W Ax Fx cx fcx h1 h2 => by
      have h := hfewest_any Ax Fx cx fcx x (Nat.le_trans HOl.out (by decide)) W h1 h2
      rw [hfw] at h
      exact h
    clear h8 HOe HKa hfw HOl hk6 hk7
    go_upto_region 5 with ((go_at_call 31; refine HK.out.mono ?_; rintro e w4 ⟨rfl, hb4⟩; obtain ⟨t0, t1, t2, t3⟩ := HS3.out.to hb4))
    refine abs_world (Q := fun W => Code.wp _ _ _ _ W) (F := fun W => CbA w A F c fc b An ns W ∧ StB2 w.heap.size kind purl sa sb W) _ ⟨HA3.out.to hb4, HS3.out.to hb4⟩ ?_
    clear hb4 HA3 HS3 HK s0 s1 s2 s3 t0 t1 t2 t3 a1 a6 b1 b6
    rintro W21 ⟨hA21, hS21⟩
    obtain ⟨s0, s1, s2, s3⟩ := hS21
    have HA21 := Lib.hid hA21
    have HS21 : Hid (StB2 w.heap.size kind purl sa sb W21) := ⟨s0, s1, s2, s3⟩
    clear hA21
    go_upto_region 6 with ((go_at_call 15; refine (HOf.out _).mono ?_; intro e w22 ho; obtain ⟨Ax, Fx, cx, fcx, rfl, hsx, hpx, hbx⟩ := brd_open ho; clear ho))
    have hal := (Below.refl w22.heap.size w22).alloc (Nat.le_refl _) (.cells #[.slice Ax x.to_.length cx, .slice Fx x.fronts.length fcx] 26)
    have HX : Hid (CbA w A F c fc b An ns (w22.alloc (.cells #[.slice Ax x.to_.length cx, .slice Fx x.fronts.length fcx] 26)) ∧ StB2 w.heap.size kind purl sa sb (w22.alloc (.cells #[.slice Ax x.to_.length cx, .slice Fx x.fronts.length fcx] 26)) ∧ BrBx w22.heap.size Ax Fx cx fcx x.to_ x.fronts (w22.alloc (.cells #[.slice Ax x.to_.length cx, .slice Fx x.fronts.length fcx] 26))) := ⟨(HA21.out.to hbx).to hal, (HS21.out.to hbx).to hal, BrBx.new hsx hpx⟩
    clear hal hsx hpx hbx s0 s1 s2 s3 HA21 HS21 HOf
    refine abs_world (Q := fun W => Code.wp _ _ _ _ W) (F := fun W => CbA w A F c fc b An ns W ∧ StB2 w.heap.size kind purl sa sb W ∧ BrBx w22.heap.size Ax Fx cx fcx x.to_ x.fronts W) _ HX.out ?_
    clear HX
    obtain ⟨p1, hp1⟩ : ∃ p1, p1 = w22.heap.size := ⟨_, rfl⟩
    rw [← hp1]
    clear hp1
    rintro W23 ⟨hA23, hS23, hB23⟩
    obtain ⟨s0, s1, s2, s3⟩ := hS23
    obtain ⟨g0, g1⟩ := And.intro hB23.c0 hB23.c1
    have HA23 := Lib.hid hA23
    have HS23 : Hid (StB2 w.heap.size kind purl sa sb W23) := ⟨s0, s1, s2, s3⟩
    have HF23 := Lib.hid (HFw.out W23 Ax Fx cx fcx hB23.tz hB23.fr)
    clear hA23 hB23 HFw
    go_upto_region 8 with ((go_at_call 23; refine HF23.out.mono ?_; rintro e w24 ⟨rfl, hb24⟩))
    refine abs_world (Q := fun W => Code.wp _ _ _ _ W) (F := fun W => CbA w A F c fc b An ns W ∧ StB2 w.heap.size kind purl sa sb W) _ ⟨HA23.out.to hb24, HS23.out.to hb24⟩ ?_
    clear hb24 HA23 HS23 HF23 s0 s1 s2 s3 g0 g1
    rintro W25 ⟨hA25, hS25⟩
    obtain ⟨s0, s1, s2, s3⟩ := hS25
    have HA25 := Lib.hid hA25
    clear hA25
    go_upto_region 12 with fail
    refine abs_world (Q := fun W => Code.wp _ _ _ _ W) (F := fun W => CbA w A F c fc b An ns W) _ HA25.out ?_
    clear HA25 s0 s1 s2 s3 d1 d2 d3
    rintro W5 hA5
    obtain ⟨A1, c1, w6, hr1, hrow1, hb6⟩ := rowL_copyR (cp := cn) hA5.ns (by omega)
    have hsz6 := hb6.size
    obtain ⟨A2, c2, w7, hr2, hrow2, hb7⟩ := rowL_pushR hrow1 hsz6 (by omega) more
    have HX : Hid (CbA w A F c fc b An ns w7 ∧ SlI w7 w7.heap.size A2 (ns ++ [more])) := ⟨hA5.to (hb6.trans hb7), rowL_sl hrow2⟩
    clear hrow1 hb6 hsz6 hrow2 hb7 hA5
    go_upto_region 13 with (at_builtin; refine wpList_append_run _ rfl _ _ _ _ rfl _ _ (by rfl) (by rfl) (by first | exact hr1 | exact hr2) ?_)
    refine abs_world (Q := fun W => Code.wp _ _ _ _ W) (F := fun W => CbA w A F c fc b An ns W ∧ SlI W W.heap.size A2 (ns ++ [more])) _ HX.out ?_
    clear HX hr1 hr2 hlen
    rintro W8 ⟨hA8, hs8⟩
    obtain ⟨g0, g1⟩ := And.intro hA8.br.c0 hA8.br.c1
    have HA8 := Lib.hid hA8
    have HS8 := Lib.hid hs8
    have HCk8 := Lib.hid (HCk.out W8 hA8)
    have HCb2 : Hid (∀ W, Below W8.heap.size W8 W → Calls Try.prog 30 #[.slice A2 (ns.length + 1) c2] W fun e w' => e = .returned (.bool (cabB (ns ++ [more]))) ∧ Below W.heap.size W w') := fun W hb => by
      have h := rcables_all2 A2 c2 (ns ++ [more]) W ((hs8.below hb).more hb.size)
      rw [List.length_append, List.length_singleton] at h
      exact h
    clear hA8 hs8
    by_cases hE : brdE b = 0
    case neg =>
      have e1 : (brdE b != 0) = true := by simpa using hE
      have e2 : (brdE b == 0) = false := by simpa using hE
      clear hE
      go_wp2_with ((go_at_call 20; refine HCk8.out.mono ?_; rintro e w9 ⟨rfl, hb9⟩))
      go_ret
      exact ⟨rfl, HA8.out.lo.trans (hb9.mono HA8.out.lo.size)⟩
    rw [hE] at HCk8
    cases hcb : cabB ns with
    | false =>
      rw [hcb] at HCb
      clear hcb hE
      go_wp2_with (first
        | (go_at_call 20; refine HCk8.out.mono ?_; rintro e w9 ⟨rfl, hb9⟩)
        | (go_at_call_of 30 (Value.slice An ns.length cn); refine (HCb.out _ (HA8.out.to hb9)).mono ?_; rintro e w10 ⟨rfl, hb10⟩))
      go_ret
      exact ⟨rfl, HA8.out.lo.trans ((hb9.trans (hb10.mono hb9.size)).mono HA8.out.lo.size)⟩
    | true =>
    rw [hcb] at HCb
    cases hcb2 : cabB (ns ++ [more]) with
    | false =>
      rw [hcb2] at HCb2
      clear hcb hcb2 hE
      go_wp2_with (first
        | (go_at_call 20; refine HCk8.out.mono ?_; rintro e w9 ⟨rfl, hb9⟩)
        | (go_at_call_of 30 (Value.slice An ns.length cn); refine (HCb.out _ (HA8.out.to hb9)).mono ?_; rintro e w10 ⟨rfl, hb10⟩)
        | (go_at_call_of 30 A2; refine (HCb2.out _ (hb9.trans (hb10.mono hb9.size))).mono ?_; rintro e w11 ⟨rfl, hb11⟩))
      go_ret
      have hb := hb9.trans (hb10.mono hb9.size)
      exact ⟨rfl, HA8.out.lo.trans ((hb.trans (hb11.mono hb.size)).mono HA8.out.lo.size)⟩
    | true =>
    rw [hcb2] at HCb2
    obtain ⟨k8, kp, kf⟩ := brdE_zero hE
    have hfl : b.fronts.length ≤ 4611686018427387904 := Nat.le_trans (fr_len k8 kf) (by decide)
    have hns4 := cab_len2 hcb
    have hns5 := cab_len2 hcb2
    rw [List.length_append, List.length_singleton] at hns5
    have HP1 : Hid (∀ W, CbA w A F c fc b An ns W → Calls Try.prog 21 #[.agg #[.slice A b.to_.length c, .slice F b.fronts.length fc], .slice An ns.length cn] W fun e w' => ∃ A' c', e = .returned (.tuple #[.slice A' (planE b ns).1.length c', .int .i64 (planE b ns).2]) ∧ rowL w' W.heap.size A' c' (planE b ns).1 ∧ Below W.heap.size W w') := fun W h => hplan_any A F c fc b hfl An cn ns (by omega) W h.br.tz h.br.fr h.ns
    have HP2 : Hid (∀ W, CbA w A F c fc b An ns W → SlI W W.heap.size A2 (ns ++ [more]) → Calls Try.prog 21 #[.agg #[.slice A b.to_.length c, .slice F b.fronts.length fc], .slice A2 (ns.length + 1) c2] W fun e w' => ∃ A' c', e = .returned (.tuple #[.slice A' (planE b (ns ++ [more])).1.length c', .int .i64 (planE b (ns ++ [more])).2]) ∧ rowL w' W.heap.size A' c' (planE b (ns ++ [more])).1 ∧ Below W.heap.size W w') := fun W h h2 => by
      have h3 := hplan_any A F c fc b hfl A2 c2 (ns ++ [more]) (by rw [List.length_append, List.length_singleton]; omega) W h.br.tz h.br.fr h2
      rw [List.length_append, List.length_singleton] at h3
      exact h3
    have HM : Hid ((planE b ns).2 = 0 → (planE b (ns ++ [more])).2 = 0) := fun h => plan_more hE hcb hcb2 h
    obtain ⟨⟨q1, x1⟩, hq1⟩ : ∃ y, y = planE b ns := ⟨_, rfl⟩
    obtain ⟨⟨q2, x2⟩, hq2⟩ : ∃ y, y = planE b (ns ++ [more]) := ⟨_, rfl⟩
    rw [← hq1] at HP1 HM
    rw [← hq2] at HP2 HM
    replace HM : Hid (x1 = 0 → x2 = 0) := HM
    clear hq1 hq2 kp kf k8 hfl hns4 hns5 hE hcb hcb2
    go_upto_region 15 with (first
      | (go_at_call 20; refine HCk8.out.mono ?_; rintro e w9 ⟨rfl, hb9⟩)
      | (go_at_call_of 30 (Value.slice An ns.length cn); refine (HCb.out _ (HA8.out.to hb9)).mono ?_; rintro e w10 ⟨rfl, hb10⟩)
      | (go_at_call_of 30 A2; refine (HCb2.out _ (hb9.trans (hb10.mono hb9.size))).mono ?_; rintro e w11 ⟨rfl, hb11⟩))
    have hb := hb9.trans (hb10.mono hb9.size)
    have hb' := hb.trans (hb11.mono hb.size)
    refine abs_world (Q := fun W => Code.wp _ _ _ _ W) (F := fun W => CbA w A F c fc b An ns W ∧ SlI W W.heap.size A2 (ns ++ [more])) _ ⟨HA8.out.to hb', (HS8.out.below hb').more hb'.size⟩ ?_
    clear hb hb' hb9 hb10 hb11 HA8 HS8 HCk8 HCk HCb HCb2 g0 g1
    rintro W12 ⟨hA12, hs12⟩
    obtain ⟨g0, g1⟩ := And.intro hA12.br.c0 hA12.br.c1
    have HA12 := Lib.hid hA12
    have HS12 := Lib.hid hs12
    clear hA12 hs12
    go_upto_region 16 with ((go_at_call 21; refine (HP1.out _ HA12.out).mono ?_; rintro e w13 ⟨Aq, cq, rfl, -, hb13⟩))
    refine abs_world (Q := fun W => Code.wp _ _ _ _ W) (F := fun W => CbA w A F c fc b An ns W ∧ SlI W W.heap.size A2 (ns ++ [more])) _ ⟨HA12.out.to hb13, (HS12.out.below hb13).more hb13.size⟩ ?_
    clear hb13 HA12 HS12 HP1 g0 g1
    rintro W14 ⟨hA14, hs14⟩
    obtain ⟨g0, g1⟩ := And.intro hA14.br.c0 hA14.br.c1
    have HA14 := Lib.hid hA14
    have HS14 := Lib.hid hs14
    clear hA14 hs14
    by_cases hx1 : x1 = 0
    case pos =>
      have hx2 := HM.out hx1
      have d1 : (x1 != 0) = false := by simp [hx1]
      have d2 : (x2 == 0) = true := by simp [hx2]
      clear hx1 hx2 HM
      go_wp2_with ((go_at_call 21; refine (HP2.out _ HA14.out HS14.out).mono ?_; rintro e w15 ⟨Ar, cr, rfl, -, hb15⟩))
      go_ret
      exact ⟨rfl, HA14.out.lo.trans (hb15.mono HA14.out.lo.size)⟩
    case neg =>
      have d1 : (x1 != 0) = true := by simpa using hx1
      clear hx1 HM
      go_wp2_with ((go_at_call 21; refine (HP2.out _ HA14.out HS14.out).mono ?_; rintro e w15 ⟨Ar, cr, rfl, -, hb15⟩))
      go_ret
      exact ⟨rfl, HA14.out.lo.trans (hb15.mono HA14.out.lo.size)⟩
  have d1 : (kind == 6) = true := by simpa using hk6
  obtain ⟨a1, a6, b1, b6⟩ := HKa.out rfl (Or.inl hk6)
  by_cases h8 : sa + sb ≤ 8
  case neg =>
    have d3 : decide (sa + sb ≤ 8) = false := decide_eq_false h8
    clear h8 HOe HKa HOf HOl hk6
    go_upto_region 12 with ((go_at_call 31; refine HK.out.mono ?_; rintro e w4 ⟨rfl, hb4⟩; obtain ⟨t0, t1, t2, t3⟩ := HS3.out.to hb4))
    refine abs_world (Q := fun W => Code.wp _ _ _ _ W) (F := fun W => CbA w A F c fc b An ns W) _ (HA3.out.to hb4) ?_
    clear hb4 HA3 HS3 HK s0 s1 s2 s3 t0 t1 t2 t3 d1  d3 a1 a6 b1 b6
    rintro W5 hA5
    obtain ⟨A1, c1, w6, hr1, hrow1, hb6⟩ := rowL_copyR (cp := cn) hA5.ns (by omega)
    have hsz6 := hb6.size
    obtain ⟨A2, c2, w7, hr2, hrow2, hb7⟩ := rowL_pushR hrow1 hsz6 (by omega) more
    have HX : Hid (CbA w A F c fc b An ns w7 ∧ SlI w7 w7.heap.size A2 (ns ++ [more])) := ⟨hA5.to (hb6.trans hb7), rowL_sl hrow2⟩
    clear hrow1 hb6 hsz6 hrow2 hb7 hA5
    go_upto_region 13 with (at_builtin; refine wpList_append_run _ rfl _ _ _ _ rfl _ _ (by rfl) (by rfl) (by first | exact hr1 | exact hr2) ?_)
    refine abs_world (Q := fun W => Code.wp _ _ _ _ W) (F := fun W => CbA w A F c fc b An ns W ∧ SlI W W.heap.size A2 (ns ++ [more])) _ HX.out ?_
    clear HX hr1 hr2 hlen
    rintro W8 ⟨hA8, hs8⟩
    obtain ⟨g0, g1⟩ := And.intro hA8.br.c0 hA8.br.c1
    have HA8 := Lib.hid hA8
    have HS8 := Lib.hid hs8
    have HCk8 := Lib.hid (HCk.out W8 hA8)
    have HCb2 : Hid (∀ W, Below W8.heap.size W8 W → Calls Try.prog 30 #[.slice A2 (ns.length + 1) c2] W fun e w' => e = .returned (.bool (cabB (ns ++ [more]))) ∧ Below W.heap.size W w') := fun W hb => by
      have h := rcables_all2 A2 c2 (ns ++ [more]) W ((hs8.below hb).more hb.size)
      rw [List.length_append, List.length_singleton] at h
      exact h
    clear hA8 hs8
    by_cases hE : brdE b = 0
    case neg =>
      have e1 : (brdE b != 0) = true := by simpa using hE
      have e2 : (brdE b == 0) = false := by simpa using hE
      clear hE
      go_wp2_with ((go_at_call 20; refine HCk8.out.mono ?_; rintro e w9 ⟨rfl, hb9⟩))
      go_ret
      exact ⟨rfl, HA8.out.lo.trans (hb9.mono HA8.out.lo.size)⟩
    rw [hE] at HCk8
    cases hcb : cabB ns with
    | false =>
      rw [hcb] at HCb
      clear hcb hE
      go_wp2_with (first
        | (go_at_call 20; refine HCk8.out.mono ?_; rintro e w9 ⟨rfl, hb9⟩)
        | (go_at_call_of 30 (Value.slice An ns.length cn); refine (HCb.out _ (HA8.out.to hb9)).mono ?_; rintro e w10 ⟨rfl, hb10⟩))
      go_ret
      exact ⟨rfl, HA8.out.lo.trans ((hb9.trans (hb10.mono hb9.size)).mono HA8.out.lo.size)⟩
    | true =>
    rw [hcb] at HCb
    cases hcb2 : cabB (ns ++ [more]) with
    | false =>
      rw [hcb2] at HCb2
      clear hcb hcb2 hE
      go_wp2_with (first
        | (go_at_call 20; refine HCk8.out.mono ?_; rintro e w9 ⟨rfl, hb9⟩)
        | (go_at_call_of 30 (Value.slice An ns.length cn); refine (HCb.out _ (HA8.out.to hb9)).mono ?_; rintro e w10 ⟨rfl, hb10⟩)
        | (go_at_call_of 30 A2; refine (HCb2.out _ (hb9.trans (hb10.mono hb9.size))).mono ?_; rintro e w11 ⟨rfl, hb11⟩))
      go_ret
      have hb := hb9.trans (hb10.mono hb9.size)
      exact ⟨rfl, HA8.out.lo.trans ((hb.trans (hb11.mono hb.size)).mono HA8.out.lo.size)⟩
    | true =>
    rw [hcb2] at HCb2
    obtain ⟨k8, kp, kf⟩ := brdE_zero hE
    have hfl : b.fronts.length ≤ 4611686018427387904 := Nat.le_trans (fr_len k8 kf) (by decide)
    have hns4 := cab_len2 hcb
    have hns5 := cab_len2 hcb2
    rw [List.length_append, List.length_singleton] at hns5
    have HP1 : Hid (∀ W, CbA w A F c fc b An ns W → Calls Try.prog 21 #[.agg #[.slice A b.to_.length c, .slice F b.fronts.length fc], .slice An ns.length cn] W fun e w' => ∃ A' c', e = .returned (.tuple #[.slice A' (planE b ns).1.length c', .int .i64 (planE b ns).2]) ∧ rowL w' W.heap.size A' c' (planE b ns).1 ∧ Below W.heap.size W w') := fun W h => hplan_any A F c fc b hfl An cn ns (by omega) W h.br.tz h.br.fr h.ns
    have HP2 : Hid (∀ W, CbA w A F c fc b An ns W → SlI W W.heap.size A2 (ns ++ [more]) → Calls Try.prog 21 #[.agg #[.slice A b.to_.length c, .slice F b.fronts.length fc], .slice A2 (ns.length + 1) c2] W fun e w' => ∃ A' c', e = .returned (.tuple #[.slice A' (planE b (ns ++ [more])).1.length c', .int .i64 (planE b (ns ++ [more])).2]) ∧ rowL w' W.heap.size A' c' (planE b (ns ++ [more])).1 ∧ Below W.heap.size W w') := fun W h h2 => by
      have h3 := hplan_any A F c fc b hfl A2 c2 (ns ++ [more]) (by rw [List.length_append, List.length_singleton]; omega) W h.br.tz h.br.fr h2
      rw [List.length_append, List.length_singleton] at h3
      exact h3
    have HM : Hid ((planE b ns).2 = 0 → (planE b (ns ++ [more])).2 = 0) := fun h => plan_more hE hcb hcb2 h
    obtain ⟨⟨q1, x1⟩, hq1⟩ : ∃ y, y = planE b ns := ⟨_, rfl⟩
    obtain ⟨⟨q2, x2⟩, hq2⟩ : ∃ y, y = planE b (ns ++ [more]) := ⟨_, rfl⟩
    rw [← hq1] at HP1 HM
    rw [← hq2] at HP2 HM
    replace HM : Hid (x1 = 0 → x2 = 0) := HM
    clear hq1 hq2 kp kf k8 hfl hns4 hns5 hE hcb hcb2
    go_upto_region 15 with (first
      | (go_at_call 20; refine HCk8.out.mono ?_; rintro e w9 ⟨rfl, hb9⟩)
      | (go_at_call_of 30 (Value.slice An ns.length cn); refine (HCb.out _ (HA8.out.to hb9)).mono ?_; rintro e w10 ⟨rfl, hb10⟩)
      | (go_at_call_of 30 A2; refine (HCb2.out _ (hb9.trans (hb10.mono hb9.size))).mono ?_; rintro e w11 ⟨rfl, hb11⟩))
    have hb := hb9.trans (hb10.mono hb9.size)
    have hb' := hb.trans (hb11.mono hb.size)
    refine abs_world (Q := fun W => Code.wp _ _ _ _ W) (F := fun W => CbA w A F c fc b An ns W ∧ SlI W W.heap.size A2 (ns ++ [more])) _ ⟨HA8.out.to hb', (HS8.out.below hb').more hb'.size⟩ ?_
    clear hb hb' hb9 hb10 hb11 HA8 HS8 HCk8 HCk HCb HCb2 g0 g1
    rintro W12 ⟨hA12, hs12⟩
    obtain ⟨g0, g1⟩ := And.intro hA12.br.c0 hA12.br.c1
    have HA12 := Lib.hid hA12
    have HS12 := Lib.hid hs12
    clear hA12 hs12
    go_upto_region 16 with ((go_at_call 21; refine (HP1.out _ HA12.out).mono ?_; rintro e w13 ⟨Aq, cq, rfl, -, hb13⟩))
    refine abs_world (Q := fun W => Code.wp _ _ _ _ W) (F := fun W => CbA w A F c fc b An ns W ∧ SlI W W.heap.size A2 (ns ++ [more])) _ ⟨HA12.out.to hb13, (HS12.out.below hb13).more hb13.size⟩ ?_
    clear hb13 HA12 HS12 HP1 g0 g1
    rintro W14 ⟨hA14, hs14⟩
    obtain ⟨g0, g1⟩ := And.intro hA14.br.c0 hA14.br.c1
    have HA14 := Lib.hid hA14
    have HS14 := Lib.hid hs14
    clear hA14 hs14
    by_cases hx1 : x1 = 0
    case pos =>
      have hx2 := HM.out hx1
      have d1 : (x1 != 0) = false := by simp [hx1]
      have d2 : (x2 == 0) = true := by simp [hx2]
      clear hx1 hx2 HM
      go_wp2_with ((go_at_call 21; refine (HP2.out _ HA14.out HS14.out).mono ?_; rintro e w15 ⟨Ar, cr, rfl, -, hb15⟩))
      go_ret
      exact ⟨rfl, HA14.out.lo.trans (hb15.mono HA14.out.lo.size)⟩
    case neg =>
      have d1 : (x1 != 0) = true := by simpa using hx1
      clear hx1 HM
      go_wp2_with ((go_at_call 21; refine (HP2.out _ HA14.out HS14.out).mono ?_; rintro e w15 ⟨Ar, cr, rfl, -, hb15⟩))
      go_ret
      exact ⟨rfl, HA14.out.lo.trans (hb15.mono HA14.out.lo.size)⟩
  have d3 : decide (sa + sb ≤ 8) = true := decide_eq_true h8
  obtain ⟨hx0, hfw⟩ := HOe.out rfl (Or.inl hk6) h8
  rw [if_pos hk6] at hfw
  subst hx0
  have HFw : Hid (∀ W Ax Fx cx fcx, SlI W W.heap.size Ax x.to_ → SlPr W W.heap.size Fx x.fronts → Calls Try.prog 23 #[.agg #[.slice Ax x.to_.length cx, .slice Fx x.fronts.length fcx]] W fun e w' => e = .returned (.tuple #[.int .i64 1, .int .i64 0, .int .i64 0]) ∧ Below W.heap.size W w') := fun W Ax Fx cx fcx h1 h2 => by
    have h := hfewest_any Ax Fx cx fcx x (Nat.le_trans HOl.out (by decide)) W h1 h2
    rw [hfw] at h
    exact h
  clear h8 HOe HKa hfw HOl hk6
  go_upto_region 5 with ((go_at_call 31; refine HK.out.mono ?_; rintro e w4 ⟨rfl, hb4⟩; obtain ⟨t0, t1, t2, t3⟩ := HS3.out.to hb4))
  refine abs_world (Q := fun W => Code.wp _ _ _ _ W) (F := fun W => CbA w A F c fc b An ns W ∧ StB2 w.heap.size kind purl sa sb W) _ ⟨HA3.out.to hb4, HS3.out.to hb4⟩ ?_
  clear hb4 HA3 HS3 HK s0 s1 s2 s3 t0 t1 t2 t3 a1 a6 b1 b6
  rintro W21 ⟨hA21, hS21⟩
  obtain ⟨s0, s1, s2, s3⟩ := hS21
  have HA21 := Lib.hid hA21
  have HS21 : Hid (StB2 w.heap.size kind purl sa sb W21) := ⟨s0, s1, s2, s3⟩
  clear hA21
  go_upto_region 6 with ((go_at_call 15; refine (HOf.out _).mono ?_; intro e w22 ho; obtain ⟨Ax, Fx, cx, fcx, rfl, hsx, hpx, hbx⟩ := brd_open ho; clear ho))
  have hal := (Below.refl w22.heap.size w22).alloc (Nat.le_refl _) (.cells #[.slice Ax x.to_.length cx, .slice Fx x.fronts.length fcx] 26)
  have HX : Hid (CbA w A F c fc b An ns (w22.alloc (.cells #[.slice Ax x.to_.length cx, .slice Fx x.fronts.length fcx] 26)) ∧ StB2 w.heap.size kind purl sa sb (w22.alloc (.cells #[.slice Ax x.to_.length cx, .slice Fx x.fronts.length fcx] 26)) ∧ BrBx w22.heap.size Ax Fx cx fcx x.to_ x.fronts (w22.alloc (.cells #[.slice Ax x.to_.length cx, .slice Fx x.fronts.length fcx] 26))) := ⟨(HA21.out.to hbx).to hal, (HS21.out.to hbx).to hal, BrBx.new hsx hpx⟩
  clear hal hsx hpx hbx s0 s1 s2 s3 HA21 HS21 HOf
  refine abs_world (Q := fun W => Code.wp _ _ _ _ W) (F := fun W => CbA w A F c fc b An ns W ∧ StB2 w.heap.size kind purl sa sb W ∧ BrBx w22.heap.size Ax Fx cx fcx x.to_ x.fronts W) _ HX.out ?_
  clear HX
  obtain ⟨p1, hp1⟩ : ∃ p1, p1 = w22.heap.size := ⟨_, rfl⟩
  rw [← hp1]
  clear hp1
  rintro W23 ⟨hA23, hS23, hB23⟩
  obtain ⟨s0, s1, s2, s3⟩ := hS23
  obtain ⟨g0, g1⟩ := And.intro hB23.c0 hB23.c1
  have HA23 := Lib.hid hA23
  have HS23 : Hid (StB2 w.heap.size kind purl sa sb W23) := ⟨s0, s1, s2, s3⟩
  have HF23 := Lib.hid (HFw.out W23 Ax Fx cx fcx hB23.tz hB23.fr)
  clear hA23 hB23 HFw
  go_upto_region 8 with ((go_at_call 23; refine HF23.out.mono ?_; rintro e w24 ⟨rfl, hb24⟩))
  refine abs_world (Q := fun W => Code.wp _ _ _ _ W) (F := fun W => CbA w A F c fc b An ns W ∧ StB2 w.heap.size kind purl sa sb W) _ ⟨HA23.out.to hb24, HS23.out.to hb24⟩ ?_
  clear hb24 HA23 HS23 HF23 s0 s1 s2 s3 g0 g1
  rintro W25 ⟨hA25, hS25⟩
  obtain ⟨s0, s1, s2, s3⟩ := hS25
  have HA25 := Lib.hid hA25
  clear hA25
  go_upto_region 12 with fail
  refine abs_world (Q := fun W => Code.wp _ _ _ _ W) (F := fun W => CbA w A F c fc b An ns W) _ HA25.out ?_
  clear HA25 s0 s1 s2 s3 d1  d3
  rintro W5 hA5
  obtain ⟨A1, c1, w6, hr1, hrow1, hb6⟩ := rowL_copyR (cp := cn) hA5.ns (by omega)
  have hsz6 := hb6.size
  obtain ⟨A2, c2, w7, hr2, hrow2, hb7⟩ := rowL_pushR hrow1 hsz6 (by omega) more
  have HX : Hid (CbA w A F c fc b An ns w7 ∧ SlI w7 w7.heap.size A2 (ns ++ [more])) := ⟨hA5.to (hb6.trans hb7), rowL_sl hrow2⟩
  clear hrow1 hb6 hsz6 hrow2 hb7 hA5
  go_upto_region 13 with (at_builtin; refine wpList_append_run _ rfl _ _ _ _ rfl _ _ (by rfl) (by rfl) (by first | exact hr1 | exact hr2) ?_)
  refine abs_world (Q := fun W => Code.wp _ _ _ _ W) (F := fun W => CbA w A F c fc b An ns W ∧ SlI W W.heap.size A2 (ns ++ [more])) _ HX.out ?_
  clear HX hr1 hr2 hlen
  rintro W8 ⟨hA8, hs8⟩
  obtain ⟨g0, g1⟩ := And.intro hA8.br.c0 hA8.br.c1
  have HA8 := Lib.hid hA8
  have HS8 := Lib.hid hs8
  have HCk8 := Lib.hid (HCk.out W8 hA8)
  have HCb2 : Hid (∀ W, Below W8.heap.size W8 W → Calls Try.prog 30 #[.slice A2 (ns.length + 1) c2] W fun e w' => e = .returned (.bool (cabB (ns ++ [more]))) ∧ Below W.heap.size W w') := fun W hb => by
    have h := rcables_all2 A2 c2 (ns ++ [more]) W ((hs8.below hb).more hb.size)
    rw [List.length_append, List.length_singleton] at h
    exact h
  clear hA8 hs8
  by_cases hE : brdE b = 0
  case neg =>
    have e1 : (brdE b != 0) = true := by simpa using hE
    have e2 : (brdE b == 0) = false := by simpa using hE
    clear hE
    go_wp2_with ((go_at_call 20; refine HCk8.out.mono ?_; rintro e w9 ⟨rfl, hb9⟩))
    go_ret
    exact ⟨rfl, HA8.out.lo.trans (hb9.mono HA8.out.lo.size)⟩
  rw [hE] at HCk8
  cases hcb : cabB ns with
  | false =>
    rw [hcb] at HCb
    clear hcb hE
    go_wp2_with (first
      | (go_at_call 20; refine HCk8.out.mono ?_; rintro e w9 ⟨rfl, hb9⟩)
      | (go_at_call_of 30 (Value.slice An ns.length cn); refine (HCb.out _ (HA8.out.to hb9)).mono ?_; rintro e w10 ⟨rfl, hb10⟩))
    go_ret
    exact ⟨rfl, HA8.out.lo.trans ((hb9.trans (hb10.mono hb9.size)).mono HA8.out.lo.size)⟩
  | true =>
  rw [hcb] at HCb
  cases hcb2 : cabB (ns ++ [more]) with
  | false =>
    rw [hcb2] at HCb2
    clear hcb hcb2 hE
    go_wp2_with (first
      | (go_at_call 20; refine HCk8.out.mono ?_; rintro e w9 ⟨rfl, hb9⟩)
      | (go_at_call_of 30 (Value.slice An ns.length cn); refine (HCb.out _ (HA8.out.to hb9)).mono ?_; rintro e w10 ⟨rfl, hb10⟩)
      | (go_at_call_of 30 A2; refine (HCb2.out _ (hb9.trans (hb10.mono hb9.size))).mono ?_; rintro e w11 ⟨rfl, hb11⟩))
    go_ret
    have hb := hb9.trans (hb10.mono hb9.size)
    exact ⟨rfl, HA8.out.lo.trans ((hb.trans (hb11.mono hb.size)).mono HA8.out.lo.size)⟩
  | true =>
  rw [hcb2] at HCb2
  obtain ⟨k8, kp, kf⟩ := brdE_zero hE
  have hfl : b.fronts.length ≤ 4611686018427387904 := Nat.le_trans (fr_len k8 kf) (by decide)
  have hns4 := cab_len2 hcb
  have hns5 := cab_len2 hcb2
  rw [List.length_append, List.length_singleton] at hns5
  have HP1 : Hid (∀ W, CbA w A F c fc b An ns W → Calls Try.prog 21 #[.agg #[.slice A b.to_.length c, .slice F b.fronts.length fc], .slice An ns.length cn] W fun e w' => ∃ A' c', e = .returned (.tuple #[.slice A' (planE b ns).1.length c', .int .i64 (planE b ns).2]) ∧ rowL w' W.heap.size A' c' (planE b ns).1 ∧ Below W.heap.size W w') := fun W h => hplan_any A F c fc b hfl An cn ns (by omega) W h.br.tz h.br.fr h.ns
  have HP2 : Hid (∀ W, CbA w A F c fc b An ns W → SlI W W.heap.size A2 (ns ++ [more]) → Calls Try.prog 21 #[.agg #[.slice A b.to_.length c, .slice F b.fronts.length fc], .slice A2 (ns.length + 1) c2] W fun e w' => ∃ A' c', e = .returned (.tuple #[.slice A' (planE b (ns ++ [more])).1.length c', .int .i64 (planE b (ns ++ [more])).2]) ∧ rowL w' W.heap.size A' c' (planE b (ns ++ [more])).1 ∧ Below W.heap.size W w') := fun W h h2 => by
    have h3 := hplan_any A F c fc b hfl A2 c2 (ns ++ [more]) (by rw [List.length_append, List.length_singleton]; omega) W h.br.tz h.br.fr h2
    rw [List.length_append, List.length_singleton] at h3
    exact h3
  have HM : Hid ((planE b ns).2 = 0 → (planE b (ns ++ [more])).2 = 0) := fun h => plan_more hE hcb hcb2 h
  obtain ⟨⟨q1, x1⟩, hq1⟩ : ∃ y, y = planE b ns := ⟨_, rfl⟩
  obtain ⟨⟨q2, x2⟩, hq2⟩ : ∃ y, y = planE b (ns ++ [more]) := ⟨_, rfl⟩
  rw [← hq1] at HP1 HM
  rw [← hq2] at HP2 HM
  replace HM : Hid (x1 = 0 → x2 = 0) := HM
  clear hq1 hq2 kp kf k8 hfl hns4 hns5 hE hcb hcb2
  go_upto_region 15 with (first
    | (go_at_call 20; refine HCk8.out.mono ?_; rintro e w9 ⟨rfl, hb9⟩)
    | (go_at_call_of 30 (Value.slice An ns.length cn); refine (HCb.out _ (HA8.out.to hb9)).mono ?_; rintro e w10 ⟨rfl, hb10⟩)
    | (go_at_call_of 30 A2; refine (HCb2.out _ (hb9.trans (hb10.mono hb9.size))).mono ?_; rintro e w11 ⟨rfl, hb11⟩))
  have hb := hb9.trans (hb10.mono hb9.size)
  have hb' := hb.trans (hb11.mono hb.size)
  refine abs_world (Q := fun W => Code.wp _ _ _ _ W) (F := fun W => CbA w A F c fc b An ns W ∧ SlI W W.heap.size A2 (ns ++ [more])) _ ⟨HA8.out.to hb', (HS8.out.below hb').more hb'.size⟩ ?_
  clear hb hb' hb9 hb10 hb11 HA8 HS8 HCk8 HCk HCb HCb2 g0 g1
  rintro W12 ⟨hA12, hs12⟩
  obtain ⟨g0, g1⟩ := And.intro hA12.br.c0 hA12.br.c1
  have HA12 := Lib.hid hA12
  have HS12 := Lib.hid hs12
  clear hA12 hs12
  go_upto_region 16 with ((go_at_call 21; refine (HP1.out _ HA12.out).mono ?_; rintro e w13 ⟨Aq, cq, rfl, -, hb13⟩))
  refine abs_world (Q := fun W => Code.wp _ _ _ _ W) (F := fun W => CbA w A F c fc b An ns W ∧ SlI W W.heap.size A2 (ns ++ [more])) _ ⟨HA12.out.to hb13, (HS12.out.below hb13).more hb13.size⟩ ?_
  clear hb13 HA12 HS12 HP1 g0 g1
  rintro W14 ⟨hA14, hs14⟩
  obtain ⟨g0, g1⟩ := And.intro hA14.br.c0 hA14.br.c1
  have HA14 := Lib.hid hA14
  have HS14 := Lib.hid hs14
  clear hA14 hs14
  by_cases hx1 : x1 = 0
  case pos =>
    have hx2 := HM.out hx1
    have d1 : (x1 != 0) = false := by simp [hx1]
    have d2 : (x2 == 0) = true := by simp [hx2]
    clear hx1 hx2 HM
    go_wp2_with ((go_at_call 21; refine (HP2.out _ HA14.out HS14.out).mono ?_; rintro e w15 ⟨Ar, cr, rfl, -, hb15⟩))
    go_ret
    exact ⟨rfl, HA14.out.lo.trans (hb15.mono HA14.out.lo.size)⟩
  case neg =>
    have d1 : (x1 != 0) = true := by simpa using hx1
    clear hx1 HM
    go_wp2_with ((go_at_call 21; refine (HP2.out _ HA14.out HS14.out).mono ?_; rintro e w15 ⟨Ar, cr, rfl, -, hb15⟩))
    go_ret
    exact ⟨rfl, HA14.out.lo.trans (hb15.mono HA14.out.lo.size)⟩
end Go.Proofs.Ytodjkifcbgmckaa
