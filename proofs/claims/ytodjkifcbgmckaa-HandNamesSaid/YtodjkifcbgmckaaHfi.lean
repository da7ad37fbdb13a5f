/- Layer 29: find and Plan, walked. -/
import Derived.Test.YtodjkifcbgmckaaHri
import Derived.Test.YtodjkifcbgmckaaHs
import Derived.Test.YtodjkifcbgmckaaAppR
namespace Go.Proofs.Ytodjkifcbgmckaa
open Go.RowKit Go.Shelf Go.Sort
set_option maxRecDepth 100000

/-- A list of ints in a row of the call's own. -/
def rowL (w : World) (B : Nat) (A : Option Addr) (c : Nat) (l : List Int) : Prop := w.ownsRow B 3 1 (.slice A l.length c) l.length (intV l)
theorem rowL_sl {w : World} {B c : Nat} {A : Option Addr} {l : List Int} (h : rowL w B A c l) : SlI w w.heap.size A l := (own_sli h).2
theorem rowL_cap {w : World} {B c : Nat} {A : Option Addr} {l : List Int} (h : rowL w B A c l) : l.length ≤ c := by
  obtain ⟨A', c', e, hc⟩ := own_slice h
  cases e
  exact hc
/-- The list is cut by its last. -/
theorem rowL_cut {w : World} {B c : Nat} {A : Option Addr} {l : List Int} {a : Int} (h : rowL w B A c (l ++ [a])) : ∃ g, A = some ⟨g, 0, none⟩ ∧ rowL w B A c l ∧ w.cell? ⟨g, l.length, none⟩ = some (.int .i64 a) := by
  unfold rowL at h
  obtain ⟨h1, h2⟩ := h
  rcases h2 with ⟨h2, h3⟩ | ⟨g, cap, cur, hv, hg, hh, hn, hm, hs, ht⟩
  · simp at h3
  · have h0 : w.ownsRow B 3 1 (.slice A (l ++ [a]).length c) (l ++ [a]).length (intV (l ++ [a])) := ⟨h1, Or.inr ⟨g, cap, cur, hv, hg, hh, hn, hm, hs, ht⟩⟩
    cases hv
    refine ⟨g, rfl, ⟨by unfold intV; simp, Or.inr ⟨g, c, cur, rfl, hg, hh, by simp at hn; omega, hm, hs, ?_⟩⟩, ?_⟩
    · have e := congrArg (List.take (l.length * 1)) ht
      rw [List.take_take] at e
      simp only [Nat.mul_one, List.length_append, List.length_singleton] at e ⊢
      rw [Nat.min_eq_left (by omega)] at e
      rw [e]
      unfold intV
      rw [List.map_append, List.take_append_of_le_length (by simp)]
      rw [List.take_of_length_le (by simp)]
    · rw [h0.cellAt l.length (by simp)]
      unfold intV
      rw [List.getElem?_map, List.getElem?_append_right (Nat.le_refl _), Nat.sub_self]
      rfl
/-- A number is put behind it. -/
theorem rowL_push {w : World} {B c : Nat} {A : Option Addr} {l : List Int} (h : rowL w B A c l) (hB : B ≤ w.heap.size) (hl : l.length ≤ 100000) (x : Int) :
    ∃ A' c' w', (Builtin.append_ #[22, 22] 22 #[.slice A l.length c, .slice (some ⟨w.heap.size, 0, none⟩) 1 1]).run Try.prog (w.alloc (.cells #[.int .i64 x] 3)) = .ok (.slice A' (l.length + 1) c') w' ∧ rowL w' B A' c' (l ++ [x]) ∧ Below B w w' := by
  obtain ⟨ii, hii, hii0, hii1, hii2⟩ := info_parts info_int'
  have hba : Below w.heap.size w (w.alloc (.cells #[.int .i64 x] 3)) := (Below.refl _ w).alloc (Nat.le_refl _) _
  have ho : (w.alloc (.cells #[.int .i64 x] 3)).ownsRow B 3 1 (.slice A l.length c) l.length (intV l) := own_below h hba (Nat.le_refl _)
  have hsz := hba.size
  have hnew : ∀ j u, [Value.int .i64 x][j]? = some u → (w.alloc (.cells #[.int .i64 x] 3)).cell? ((⟨w.heap.size, 0, none⟩ : Addr).add j) = some u := newsT w _ _ _ rfl
  obtain ⟨A', c', w', hr, ho1, hg1, -⟩ := run_app_any Try.underlying22 hii hii0 hii1 hii2 rfl (by decide) ho (some ⟨w.heap.size, 0, none⟩) 1 1 [.int .i64 x] rfl (fun e => by cases e) (fun ad e => by cases e; exact hnew) (by intro u hu; simp at hu; subst hu; rfl) (by unfold maxLen; omega) (by omega) (by omega)
  refine ⟨A', c', w', hr, ?_, (hba.mono hB).trans (Below.of_grown hg1 (by omega) (fun k e => (World.ownsRow.lt ho k e).1))⟩
  unfold rowL
  rw [List.length_append, List.length_singleton]
  have e : intV (l ++ [x]) = intV l ++ [.int .i64 x] := by unfold intV; rw [List.map_append]; rfl
  rw [e]
  exact ho1
/-- The list that a slice holds. -/
def readL (v : Value) (w : World) : List Int := match v with
  | .slice (some a) n _ => (List.range n).map fun j => match w.cell? ⟨a.block, a.off + j, none⟩ with
    | some (.int _ x) => x
    | _ => 0
  | _ => []
theorem readL_row {w : World} {B c : Nat} {A : Option Addr} {l : List Int} (h : rowL w B A c l) : readL (.slice A l.length c) w = l := by
  have hs := rowL_sl h
  cases A with
  | none =>
    cases l with
    | nil => rfl
    | cons x r =>
      obtain ⟨b, off, e, -⟩ := hs (by simp)
      cases e
  | some a =>
    apply List.ext_getElem?
    intro j
    unfold readL
    rw [List.getElem?_map]
    by_cases hj : j < l.length
    · obtain ⟨b, off, e, -, hc⟩ := hs (fun e => by subst e; simp at hj)
      cases e
      rw [List.getElem?_range hj, Option.map_some, hc j _ (List.getElem?_eq_getElem hj), List.getElem?_eq_getElem hj]
    · rw [List.getElem?_eq_none (by simpa using hj), List.getElem?_eq_none (by omega)]
      rfl
/-- How much is left of find's loop. -/
def leftF (k n : Nat) (v7 v8 : Value) (w : World) : Nat := if (readL v7 w).length < n then leftW k n (readL v7 w) (match v8 with | .int _ x => x | _ => 0) + 1 else 0
/-- What find answers. -/
def findOut (r : Option (List Int)) (w : World) (e : Ending) (w' : World) : Prop :=
  ∃ A c q, e = .returned (.tuple #[.slice A (r.getD []).length c, .bool q]) ∧ q = r.isSome ∧ rowL w' w.heap.size A c (r.getD []) ∧ Below w.heap.size w w'
structure FiI (w : World) (n k : Nat) (P : List Int → Bool) (plan : List Int) (next : Int) (A : Option Addr) (c : Nat) (W : World) : Prop where
  len : plan.length ≤ n
  lo : -1 ≤ next
  hi : next ≤ (k : Int)
  els : ∀ a ∈ plan, -1 ≤ a ∧ a < (k : Int)
  go : plan.length < n → sea k P n [] = loopF n k P plan next
  fin : plan.length = n → sea k P n [] = some plan
  row : rowL W w.heap.size A c plan
  bw : Below w.heap.size w W
theorem FiI.new {w W : World} {n k : Nat} {P : List Int → Bool} {A : Option Addr} {c : Nat} (hr : rowL W w.heap.size A c []) (hb : Below w.heap.size w W) : FiI w n k P [] (-1) A c W :=
  ⟨Nat.zero_le _, by omega, by omega, fun a ha => by simp at ha, fun h => (loop_start h).symm, fun h => by
    have e : n = 0 := h.symm
    subst e
    rfl, hr, hb⟩
theorem FiI.none' {w W : World} {n k : Nat} {P : List Int → Bool} {A : Option Addr} {c : Nat} (h : FiI w n k P [] (k : Int) A c W) (hn : 0 < n) : sea k P n [] = none := by rw [h.go hn, loop_none]
theorem FiI.back {w W : World} {n k : Nat} {P : List Int → Bool} {p : List Int} {a : Int} {A : Option Addr} {c : Nat} (h : FiI w n k P (p ++ [a]) (k : Int) A c W) (hl : (p ++ [a]).length < n) : FiI w n k P p (a + 1) A c W := by
  obtain ⟨g, -, hr, -⟩ := rowL_cut h.row
  have ha := h.els a (by simp)
  rw [List.length_append, List.length_singleton] at hl
  exact ⟨by omega, by omega, by omega, fun x hx => h.els x (List.mem_append.2 (Or.inl hx)), fun _ => by rw [h.go (by simpa using hl), loop_back], fun e => by omega, hr, h.bw⟩
theorem FiI.more {w W W' : World} {n k : Nat} {P : List Int → Bool} {plan : List Int} {next : Int} {A A' : Option Addr} {c c' : Nat} (h : FiI w n k P plan next A c W) (hl : plan.length < n) (hk : next < (k : Int)) (hp : P (plan ++ [next]) = true) (hr : rowL W' w.heap.size A' c' (plan ++ [next])) (hb : Below w.heap.size w W') : FiI w n k P (plan ++ [next]) (-1) A' c' W' := by
  refine ⟨by rw [List.length_append, List.length_singleton]; omega, by omega, by omega, fun x hx => ?_, fun e => ?_, fun e => ?_, hr, hb⟩
  · rcases List.mem_append.1 hx with hx | hx
    · exact h.els x hx
    · rw [List.mem_singleton.1 hx]; exact ⟨h.lo, hk⟩
  · rw [List.length_append, List.length_singleton] at e
    rw [h.go hl, loop_push e hk hp]
  · rw [List.length_append, List.length_singleton] at e
    rw [h.go hl, loop_whole e hk hp]
theorem FiI.skip {w W W' : World} {n k : Nat} {P : List Int → Bool} {plan : List Int} {next : Int} {A A' : Option Addr} {c c' : Nat} (h : FiI w n k P plan next A c W) (hl : plan.length < n) (hk : next < (k : Int)) (hp : P (plan ++ [next]) = false) (hr : rowL W' w.heap.size A' c' (plan ++ [next])) (hb : Below w.heap.size w W') : FiI w n k P plan (next + 1) A' c' W' := by
  obtain ⟨g, -, hr', -⟩ := rowL_cut hr
  exact ⟨h.len, by have := h.lo; omega, by omega, h.els, fun _ => by rw [h.go hl, loop_skip hk hp], fun e => by omega, hr', hb⟩
theorem FiI.left {w W : World} {n k : Nat} {P : List Int → Bool} {plan : List Int} {next : Int} {A : Option Addr} {c : Nat} (h : FiI w n k P plan next A c W) : leftF k n (.slice A plan.length c) (.int .i64 next) W = if plan.length < n then leftW k n plan next + 1 else 0 := by
  unfold leftF
  rw [readL_row h.row]
set_option maxHeartbeats 64000000 in
theorem hfind_any (A F : Option Addr) (c fc : Nat) (b : Brd) (hE : brdE b = 0) (An : Option Addr) (cn : Nat) (ns : List Int) (hn : ns.length ≤ 1000000) (w : World) (hs : SlI w w.heap.size A b.to_) (hp : SlPr w w.heap.size F b.fronts) (hns : SlI w w.heap.size An ns) :
    Calls Try.prog 46 #[.agg #[.slice A b.to_.length c, .slice F b.fronts.length fc], .slice An ns.length cn] w fun e w' => findOut (sea ns.length (okL b ns) b.to_.length []) w e w' := by
  obtain ⟨k8, kp, kf⟩ := brdE_zero hE
  have HAl : Hid (∀ W, Below w.heap.size w W → ∀ (A' : Option Addr) (c' : Nat) (p : List Int) (x : Nat), p.length = x + 1 → x < b.to_.length → (∀ a ∈ p, a < (ns.length : Int)) → SlI W W.heap.size A' p → Calls Try.prog 40 #[.agg #[.slice A b.to_.length c, .slice F b.fronts.length fc], .slice An ns.length cn, .slice A' (x + 1) c'] W fun e w' => e = .returned (.bool (okL b ns p)) ∧ Below W.heap.size W w') := fun W hb A' c' p x h1 h2 h3 h4 => by
    have h := allowed_any A F c fc b k8 (Nat.le_trans (fr_len k8 kf) (by decide)) kf An cn ns hn A' c' p x h1 h2 h3 W ((hs.below hb).more hb.size) ((hp.below hb).more hb.size) ((hns.below hb).more hb.size) h4
    rw [h1] at h
    unfold okL
    rw [h1, Nat.add_sub_cancel]
    exact h
  have hb0 := (Below.refl w.heap.size w).alloc (Nat.le_refl _) (.cells #[.slice A b.to_.length c, .slice F b.fronts.length fc] 26)
  have g0 : (w.alloc (.cells #[.slice A b.to_.length c, .slice F b.fronts.length fc] 26)).cell? ⟨w.heap.size, 0, none⟩ = some (.slice A b.to_.length c) := cell_new rfl rfl rfl
  have g1 : (w.alloc (.cells #[.slice A b.to_.length c, .slice F b.fronts.length fc] 26)).cell? ⟨w.heap.size, 1, none⟩ = some (.slice F b.fronts.length fc) := cell_new rfl rfl rfl
  have hr0 : rowL ((w.alloc (.cells #[.slice A b.to_.length c, .slice F b.fronts.length fc] 26)).alloc (.cells #[] 3)) (w.heap.size + 1) (some ⟨w.heap.size + 1, 0, none⟩) 0 [] := by
    have h := World.ownsRow_lit (e := 3) (base := w.heap.size + 1) (size := 1) (w.alloc (.cells #[.slice A b.to_.length c, .slice F b.fronts.length fc] 26)) #[] 0 (by simp) (by decide) rfl
    rw [World.size_alloc] at h
    exact h
  have HW := Lib.hid (And.intro (cell_al g0 (.cells #[] 3)) (And.intro (cell_al g1 (.cells #[] 3)) (And.intro (hb0.alloc hb0.size (.cells #[] 3)) hr0)))
  clear hs hp hns hb0 g0 g1 hr0 kp kf hE
  go_enter Try.func46, Try.ntmps46
  go_upto_region 3 with fail
  refine abs_world (Q := fun W => Code.wp _ _ _ _ W) (F := fun W => W.cell? ⟨w.heap.size, 0, none⟩ = some (.slice A b.to_.length c) ∧ W.cell? ⟨w.heap.size, 1, none⟩ = some (.slice F b.fronts.length fc) ∧ Below w.heap.size w W ∧ rowL W (w.heap.size + 1) (some ⟨w.heap.size + 1, 0, none⟩) 0 []) _ HW.out ?_
  clear HW
  rintro w1 ⟨g0, g1, hb1, hr1⟩
  have HW1 := Lib.hid (And.intro g0 (And.intro g1 (And.intro hb1 hr1)))
  clear g0 g1 hb1 hr1
  go_wp2
  go_loopw [7, 8] (fun s7 s8 wr => ∃ (plan : List Int) (next : Int) (A' : Option Addr) (c' : Nat), s7 = .slice A' plan.length c' ∧ s8 = .int .i64 next ∧ Hid (FiI w b.to_.length ns.length (okL b ns) plan next A' c' wr) ∧ Hid (rowL wr (w.heap.size + 1) A' c' plan) ∧ Hid (wr.cell? ⟨w.heap.size, 0, none⟩ = some (.slice A b.to_.length c) ∧ wr.cell? ⟨w.heap.size, 1, none⟩ = some (.slice F b.fronts.length fc))) (fun s7 s8 wr => leftF ns.length b.to_.length s7 s8 wr)
  case atStart =>
    obtain ⟨g0, g1, hb1, hr1⟩ := HW1.out
    exact ⟨[], -1, _, _, rfl, rfl, FiI.new (World.ownsRow.mono hr1 (by omega)) hb1, hr1, g0, g1⟩
  case round =>
    clear HW1
    obtain ⟨plan, next, A', c', rfl, rfl, HI, HR, HG⟩ := hrel
    have HLf := Lib.hid HI.out.left
    obtain ⟨g0, g1⟩ := HG.out
    have HB := Lib.hid HI.out.bw
    have hsz : w.heap.size + 1 ≤ wr.heap.size := lt_of_cell g0
    by_cases hlt : plan.length < b.to_.length
    case neg =>
      have hfin : sea ns.length (okL b ns) b.to_.length [] = some plan := HI.out.fin (by have := HI.out.len; omega)
      have HO : Hid (findOut (sea ns.length (okL b ns) b.to_.length []) w (.returned (.tuple #[.slice A' plan.length c', .bool true])) wr) := by
        show findOut _ _ _ _
        rw [hfin]
        exact ⟨A', c', true, rfl, rfl, World.ownsRow.mono HR.out (by omega), HB.out⟩
      clear hfin HI HR HG HLf g0 g1 hsz
      go_wp2
      go_ret2
      exact HO.out
    case pos =>
      rw [if_pos hlt] at HLf
      have hp8 : plan.length < 8 := by omega
      by_cases hk : next = (ns.length : Int)
      · subst hk
        rcases List.eq_nil_or_concat plan with rfl | ⟨p, a, hpa⟩
        · have hno := HI.out.none' (by simpa using hlt)
          have HO : Hid (findOut (sea ns.length (okL b ns) b.to_.length []) w (.returned (.tuple #[.slice none 0 0, .bool false])) wr) := by
            show findOut _ _ _ _
            rw [hno]
            exact ⟨none, 0, false, rfl, rfl, World.ownsRow_nil .., HB.out⟩
          rw [List.length_nil] at hlt ⊢
          clear hno HI HR HG HLf g0 g1 hsz hp8
          go_wp2
          go_ret2
          exact HO.out
        · rw [List.concat_eq_append] at hpa
          subst hpa
          have hlen : (p ++ [a]).length = p.length + 1 := by simp
          have HI2 := Lib.hid (HI.out.back hlt)
          have hal := HI.out.els a (by simp)
          obtain ⟨g, hA', hr2, hc2⟩ := rowL_cut HR.out
          subst hA'
          have hcap := rowL_cap hr2
          have HR2 := Lib.hid hr2
          have HL2 : Hid (leftF ns.length b.to_.length (.slice (some ⟨g, 0, none⟩) p.length c') (.int .i64 (a + 1)) wr < leftF ns.length b.to_.length (.slice (some ⟨g, 0, none⟩) (p ++ [a]).length c') (.int .i64 (ns.length : Int)) wr) := by
            show _ < _
            rw [HLf.out, HI2.out.left, if_pos (by omega)]
            have := left_back (k := ns.length) (m := b.to_.length) (p := p) (a := a) (by rw [hlen] at hlt; exact hlt) hal.2
            omega
          rw [hlen] at hlt hp8 HL2 ⊢
          have ha1 : IntKind.i64.wrap (a + 1) = a + 1 := IntWalk.i64_in _ (by omega)
          have hpw : IntKind.i64.wrap (p.length : Int) = (p.length : Int) := IntWalk.i64_in _ (by omega)
          have hp0 : (0 : Int) ≤ (p.length : Int) := by omega
          have hp1 : (p.length : Int) < (p.length : Int) + 1 := by omega
          have hp2 : (p.length : Int) ≤ (c' : Int) := by omega
          have hz : ((p.length : Int) + 1 == 0) = false := beq_eq_false_iff_ne.2 (by omega)
          have hz2 : (p.length + 1 == 0) = false := beq_eq_false_iff_ne.2 (by omega)
          clear hr2 HI HR HLf hlen hsz
          go_wp2
          go_roundw
          case rel => exact ⟨p, a + 1, _, _, rfl, by first | rfl | go_num, HI2.out, HR2.out, g0, g1⟩
          case measure => exact HL2.out
      · have hlk : next < (ns.length : Int) := by have := HI.out.hi; omega
        have hlo := HI.out.lo
        have hkd : (next == (ns.length : Int)) = false := beq_eq_false_iff_ne.2 hk
        obtain ⟨A2, c2, w2, hr, hrow, hb2⟩ := rowL_push HR.out hsz (by omega) next
        have HRow := Lib.hid (And.intro hrow hb2)
        have HG' := Lib.hid (And.intro g0 g1)
        clear hrow hb2 hk HR HG
        go_upto_region 11 with (at_builtin; refine wpList_append_run _ rfl _ _ _ _ rfl _ _ (by rfl) (by rfl) hr ?_)
        refine abs_world (Q := fun W => Code.wp _ _ _ _ W) (F := fun W => rowL W (w.heap.size + 1) A2 c2 (plan ++ [next]) ∧ Below (w.heap.size + 1) wr W) _ HRow.out ?_
        clear hr HRow g0 g1
        rintro W4 ⟨hrow, hb4⟩
        have g0 := (bcell hb4 (by omega) _).trans HG'.out.1
        have g1 := (bcell hb4 (by omega) _).trans HG'.out.2
        have hbw := HB.out.trans (hb4.mono (by omega))
        have HA2 := Lib.hid (HAl.out W4 hbw A2 c2 (plan ++ [next]) plan.length (by simp) hlt (fun x hx => by
          rcases List.mem_append.1 hx with hx | hx
          · exact (HI.out.els x hx).2
          · rw [List.mem_singleton.1 hx]; exact hlk) (rowL_sl hrow))
        have HRow := Lib.hid hrow
        have HBw := Lib.hid hbw
        have hsz4 := lt_of_cell g0
        have hcap := rowL_cap hrow
        rw [List.length_append, List.length_singleton] at hcap
        clear hrow hb4 hbw HG'
        cases hq : okL b ns (plan ++ [next]) with
        | true =>
          rw [hq] at HA2
          have HQ := Lib.hid hq
          clear hq
          go_wp2_with ((go_at_call 40; refine HA2.out.mono ?_; rintro e w5 ⟨rfl, hb5⟩))
          go_roundw
          case rel =>
            have hr5 : rowL w5 (w.heap.size + 1) A2 c2 (plan ++ [next]) := own_below HRow.out hb5 (Nat.le_refl _)
            have hI5 := HI.out.more hlt hlk HQ.out (World.ownsRow.mono hr5 (by omega)) (HBw.out.trans (hb5.mono HBw.out.size))
            exact ⟨plan ++ [next], -1, A2, c2, by rw [List.length_append]; rfl, rfl, hI5, hr5, (bcell hb5 (lt_of_cell g0) _).trans g0, (bcell hb5 (lt_of_cell g1) _).trans g1⟩
          case measure =>
            have hr5 : rowL w5 (w.heap.size + 1) A2 c2 (plan ++ [next]) := own_below HRow.out hb5 (Nat.le_refl _)
            have hI5 := HI.out.more hlt hlk HQ.out (World.ownsRow.mono hr5 (by omega)) (HBw.out.trans (hb5.mono HBw.out.size))
            have e := hI5.left
            rw [List.length_append, List.length_singleton] at e
            rw [HLf.out, e]
            split
            · have := left_push (k := ns.length) (m := b.to_.length) (plan := plan) (next := next) (by assumption) hlo hlk
              omega
            · omega
        | false =>
          rw [hq] at HA2
          have HQ := Lib.hid hq
          have hn1 : IntKind.i64.wrap (next + 1) = next + 1 := IntWalk.i64_in _ (by omega)
          have hpw : IntKind.i64.wrap (plan.length : Int) = (plan.length : Int) := IntWalk.i64_in _ (by omega)
          have hp0 : (0 : Int) ≤ (plan.length : Int) := by omega
          have hp2 : (plan.length : Int) ≤ (c2 : Int) := by omega
          obtain ⟨g, hA2, -, -⟩ := rowL_cut HRow.out
          subst hA2
          clear hq
          go_wp2_with ((go_at_call 40; refine HA2.out.mono ?_; rintro e w5 ⟨rfl, hb5⟩))
          go_roundw
          case rel =>
            have hr5 : rowL w5 (w.heap.size + 1) (some ⟨g, 0, none⟩) c2 (plan ++ [next]) := own_below HRow.out hb5 (Nat.le_refl _)
            have hI5 := HI.out.skip hlt hlk HQ.out (World.ownsRow.mono hr5 (by omega)) (HBw.out.trans (hb5.mono HBw.out.size))
            obtain ⟨g', -, hr6, -⟩ := rowL_cut hr5
            exact ⟨plan, next + 1, some ⟨g, 0, none⟩, c2, rfl, by first | rfl | go_num, hI5, hr6, (bcell hb5 (lt_of_cell g0) _).trans g0, (bcell hb5 (lt_of_cell g1) _).trans g1⟩
          case measure =>
            have hr5 : rowL w5 (w.heap.size + 1) (some ⟨g, 0, none⟩) c2 (plan ++ [next]) := own_below HRow.out hb5 (Nat.le_refl _)
            have hI5 := HI.out.skip hlt hlk HQ.out (World.ownsRow.mono hr5 (by omega)) (HBw.out.trans (hb5.mono HBw.out.size))
            rw [HLf.out, hI5.left, if_pos hlt]
            have := left_skip (k := ns.length) (m := b.to_.length) (plan := plan) (next := next) hlt hlk
            omega
theorem plan_cab {b : Brd} {ns : List Int} (h : brdE b = 0) (h2 : cabB ns = false) : planE b ns = ([], 2) := by unfold planE; rw [if_neg (by rw [h]; decide), if_pos h2]
theorem plan_none {b : Brd} {ns : List Int} (h : brdE b = 0) (h2 : cabB ns = true) (h3 : sea ns.length (okL b ns) b.to_.length [] = none) : planE b ns = ([], 6) := by unfold planE; rw [if_neg (by rw [h]; decide), if_neg (by rw [h2]; decide), h3]
theorem plan_some {b : Brd} {ns p : List Int} (h : brdE b = 0) (h2 : cabB ns = true) (h3 : sea ns.length (okL b ns) b.to_.length [] = some p) : planE b ns = (p, 0) := by unfold planE; rw [if_neg (by rw [h]; decide), if_neg (by rw [h2]; decide), h3]
/-- What Plan answers. -/
def planOut (r : List Int × Int) (w : World) (e : Ending) (w' : World) : Prop :=
  ∃ A c, e = .returned (.tuple #[.slice A r.1.length c, .int .i64 r.2]) ∧ rowL w' w.heap.size A c r.1 ∧ Below w.heap.size w w'
theorem planOut.stop {r : List Int × Int} {x : Int} {w w' : World} (h : r = ([], x)) (hb : Below w.heap.size w w') : planOut r w (.returned (.tuple #[.slice none 0 0, .int .i64 x])) w' := by
  subst h
  exact ⟨none, 0, rfl, World.ownsRow_nil .., hb⟩
set_option maxHeartbeats 8000000 in
theorem hplan_any (A F : Option Addr) (c fc : Nat) (b : Brd) (hf : b.fronts.length ≤ 4611686018427387904) (An : Option Addr) (cn : Nat) (ns : List Int) (hn : ns.length ≤ 1000000) (w : World) (hs : SlI w w.heap.size A b.to_) (hp : SlPr w w.heap.size F b.fronts) (hns : SlI w w.heap.size An ns) :
    Calls Try.prog 21 #[.agg #[.slice A b.to_.length c, .slice F b.fronts.length fc], .slice An ns.length cn] w fun e w' => planOut (planE b ns) w e w' := by
  have hb0 := (Below.refl w.heap.size w).alloc (Nat.le_refl _) (.cells #[.slice A b.to_.length c, .slice F b.fronts.length fc] 26)
  have g0 : (w.alloc (.cells #[.slice A b.to_.length c, .slice F b.fronts.length fc] 26)).cell? ⟨w.heap.size, 0, none⟩ = some (.slice A b.to_.length c) := cell_new rfl rfl rfl
  have g1 : (w.alloc (.cells #[.slice A b.to_.length c, .slice F b.fronts.length fc] 26)).cell? ⟨w.heap.size, 1, none⟩ = some (.slice F b.fronts.length fc) := cell_new rfl rfl rfl
  have HB0 := Lib.hid hb0
  have HG := Lib.hid (fun W (h : Below (w.alloc (.cells #[.slice A b.to_.length c, .slice F b.fronts.length fc] 26)).heap.size (w.alloc (.cells #[.slice A b.to_.length c, .slice F b.fronts.length fc] 26)) W) => And.intro ((bcell h (lt_of_cell g0) _).trans g0) ((bcell h (lt_of_cell g1) _).trans g1))
  have HCk := Lib.hid (hcheck_any A F c fc b hf (w.alloc (.cells #[.slice A b.to_.length c, .slice F b.fronts.length fc] 26)) ((hs.below hb0).more hb0.size) ((hp.below hb0).more hb0.size))
  have HCb : Hid (∀ W, Below w.heap.size w W → Calls Try.prog 32 #[.slice An ns.length cn] W fun e w' => e = .returned (.bool (cabB ns)) ∧ Below W.heap.size W w') := fun W hb => hcables_any An cn ns hn W ((hns.below hb).more hb.size)
  have HFi : Hid (brdE b = 0 → ∀ W, Below w.heap.size w W → Calls Try.prog 46 #[.agg #[.slice A b.to_.length c, .slice F b.fronts.length fc], .slice An ns.length cn] W fun e w' => findOut (sea ns.length (okL b ns) b.to_.length []) W e w') := fun h W hb => hfind_any A F c fc b h An cn ns hn W ((hs.below hb).more hb.size) ((hp.below hb).more hb.size) ((hns.below hb).more hb.size)
  clear hs hp hns hb0
  by_cases hE : brdE b = 0
  case neg =>
    have HF : Hid (planE b ns = ([], brdE b)) := by show _ = _; unfold planE; rw [if_pos hE]
    have d0 : (brdE b != 0) = true := by simpa using hE
    have HO := Lib.hid (fun w' (h : Below w.heap.size w w') => planOut.stop (w' := w') HF.out h)
    clear hE
    go_enter Try.func21, Try.ntmps21
    go_wp2_with ((go_at_call 19; refine HCk.out.mono ?_; rintro e w2 ⟨rfl, hb2⟩))
    go_ret2
    exact HO.out _ (HB0.out.trans (hb2.mono HB0.out.size))
  case pos =>
    rw [hE] at HCk
    have HFi2 := Lib.hid (HFi.out hE)
    have HE := Lib.hid hE
    clear hE HFi
    cases hcb : cabB ns with
    | false =>
      have HO := Lib.hid (fun w' (h : Below w.heap.size w w') => planOut.stop (w' := w') (plan_cab HE.out hcb) h)
      rw [hcb] at HCb
      clear hcb
      go_enter Try.func21, Try.ntmps21
      go_wp2_with (first
        | (go_at_call 19; refine HCk.out.mono ?_; rintro e w2 ⟨rfl, hb2⟩; have hb3 := HB0.out.trans (hb2.mono HB0.out.size))
        | (go_at_call 32; refine (HCb.out _ hb3).mono ?_; rintro e w4 ⟨rfl, hb4⟩))
      go_ret2
      exact HO.out _ (hb3.trans (hb4.mono hb3.size))
    | true =>
      have HCa := Lib.hid hcb
      rw [hcb] at HCb
      clear hcb
      go_enter Try.func21, Try.ntmps21
      go_upto_region 6 with (first
        | (go_at_call 19; refine HCk.out.mono ?_; rintro e w2 ⟨rfl, hb2⟩; have hb3 := HB0.out.trans (hb2.mono HB0.out.size))
        | (go_at_call 32; refine (HCb.out _ hb3).mono ?_; rintro e w4 ⟨rfl, hb4⟩))
      obtain ⟨y0, y1⟩ := HG.out w4 (hb2.trans (hb4.mono hb2.size))
      have HB4 := Lib.hid (hb3.trans (hb4.mono hb3.size))
      have HFi4 := Lib.hid (HFi2.out w4 HB4.out)
      clear hb2 hb3 hb4 HFi2 HCb HCk HG g0 g1
      cases hsea : sea ns.length (okL b ns) b.to_.length [] with
      | none =>
        rw [hsea] at HFi4
        have HO := Lib.hid (fun w' (h : Below w.heap.size w w') => planOut.stop (w' := w') (plan_none HE.out HCa.out hsea) h)
        clear hsea
        go_wp2_with ((go_at_call 46; refine HFi4.out.mono ?_; rintro e w5 ⟨A5, c5, q, rfl, rfl, hr5, hb5⟩))
        go_ret2
        exact HO.out _ (HB4.out.trans (hb5.mono HB4.out.size))
      | some p =>
        rw [hsea] at HFi4
        have HP := Lib.hid (plan_some HE.out HCa.out hsea)
        clear hsea
        go_wp2_with ((go_at_call 46; refine HFi4.out.mono ?_; rintro e w5 ⟨A5, c5, q, rfl, rfl, hr5, hb5⟩))
        go_ret2
        rw [HP.out]
        exact ⟨A5, c5, rfl, World.ownsRow.mono hr5 HB4.out.size, HB4.out.trans (hb5.mono HB4.out.size)⟩
end Go.Proofs.Ytodjkifcbgmckaa
