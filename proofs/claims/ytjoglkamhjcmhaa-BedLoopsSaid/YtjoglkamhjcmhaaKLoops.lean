/- BedLoops, walked: no loop is lost but by OpDrop. -/
import Derived.Test.YtjoglkamhjcmhaaKLoopsP
import Derived.Test.YtjoglkamhjcmhaaKPs
import Derived.Test.YtjoglkamhjcmhaaKElse2
namespace Go.Proofs.Ytjoglkamhjcmhaa
open Go.RowKit Go.Shelf Go.Sort
set_option maxRecDepth 100000

/-- How often the numbers have come. -/
def cnts (n : Nat) (P : List Int) : List Value := (List.range n).map fun j : Nat => Value.int .i64 ((P.count (j : Int) : Nat) : Int)
def CntAt (W : World) (B sb n : Nat) (P : List Int) : Prop := W.ownsRow B 3 1 (.slice (some ⟨sb, 0, none⟩) n n) n (cnts n P)
theorem cnts_set {n : Nat} {P : List Int} {x : Nat} : cnts n (P ++ [(x : Int)]) = (cnts n P).set x (.int .i64 (((P.count (x : Int) : Nat) : Int) + 1)) := by
  unfold cnts
  apply List.ext_getElem?
  intro j
  rw [List.getElem?_map, List.getElem?_set]
  by_cases e : x = j
  · subst e
    rw [if_pos rfl, List.length_map, List.length_range]
    by_cases hj : x < n
    · rw [if_pos hj, List.getElem?_range hj]; simp [List.count_append]
    · rw [if_neg hj, List.getElem?_eq_none (by simpa using hj)]; rfl
  · rw [if_neg e, List.getElem?_map]
    by_cases hj : j < n
    · rw [List.getElem?_range hj]
      have : (x : Int) ≠ (j : Int) := by omega
      simp [List.count_append, List.count_cons, this]
    · rw [List.getElem?_eq_none (by simpa using hj)]; rfl
theorem CntAt.cell {W : World} {B sb n : Nat} {P : List Int} (h : CntAt W B sb n P) {x : Nat} (hx : x < n) : W.cell? ⟨sb, x, none⟩ = some (.int .i64 ((P.count (x : Int) : Nat) : Int)) := by
  rw [World.ownsRow.cellAt h x (by omega)]
  unfold cnts
  rw [List.getElem?_map, List.getElem?_range hx]; rfl
theorem CntAt.mark {W : World} {B sb n : Nat} {P : List Int} (h : CntAt W B sb n P) (x : Nat) : CntAt (W.setCell ⟨sb, x, none⟩ (.int .i64 (((P.count (x : Int) : Nat) : Int) + 1))) B sb n (P ++ [(x : Int)]) := by
  unfold CntAt
  rw [cnts_set]
  exact (World.ownsRow.stored h x _).1
/-- What holds while the loops are counted. -/
structure LpA (w0 : World) (sb n : Nat) (P : List Int) (W : World) : Prop where
  cnt : CntAt W w0.heap.size sb n P
  lo : Below w0.heap.size w0 W
theorem LpA.mark {w0 W : World} {sb n : Nat} {P : List Int} (h : LpA w0 sb n P W) (hs : w0.heap.size ≤ sb) (x : Nat) : LpA w0 sb n (P ++ [(x : Int)]) (W.setCell ⟨sb, x, none⟩ (.int .i64 (((P.count (x : Int) : Nat) : Int) + 1))) := ⟨h.cnt.mark x, h.lo.setCell (p := ⟨sb, x, none⟩) hs _⟩
theorem LpA.same {w0 W : World} {sb n : Nat} {P Q : List Int} (h : LpA w0 sb n P W) (e : P = Q) : LpA w0 sb n Q W := e ▸ h
theorem bx_cells {w0 W : World} {sb n b : Nat} {P : List Int} {s : BedS} {p : BedP} (h : LpA w0 sb n P W) (hx : Bx w0 b s p) : BdIn W b s p := hx.cells.below h.lo hx.lt
theorem lost_succ {Q : List Int} {k : Nat} : lostN Q (k + 1) = lostN Q k + (if ((k : Nat) : Int) ∈ Q then 0 else 1) := by
  unfold lostN
  rw [List.range_succ, List.filter_append, List.length_append]
  congr 1
  by_cases h : ((k : Nat) : Int) ∈ Q <;> simp [h]
theorem drop_succ {l : List Ins} {k : Nat} {i : Ins} (h : l[k]? = some i) : dropN (l.take (k + 1)) = dropN (l.take k) + (if i.op = 9 then 1 else 0) := by
  obtain ⟨hk, e⟩ := List.getElem?_eq_some_iff.1 h
  unfold dropN
  rw [List.take_succ_eq_append_getElem hk, List.filter_append, List.length_append, e]
  congr 1
  by_cases h : i.op = 9 <;> simp [h]
theorem dropN_le (l : List Ins) : dropN l ≤ l.length := List.length_filter_le ..
theorem lostN_le (Q : List Int) (n : Nat) : lostN Q n ≤ n := by
  unfold lostN
  have := List.length_filter_le (fun i : Nat => !decide (((i : Nat) : Int) ∈ Q)) (List.range n)
  simpa using this
theorem take_flat {α : Type} (f : α → List Int) {l : List α} {i : Nat} {x : α} (h : l[i]? = some x) : (l.take (i + 1)).flatMap f = (l.take i).flatMap f ++ f x := by
  obtain ⟨hk, e⟩ := List.getElem?_eq_some_iff.1 h
  rw [List.take_succ_eq_append_getElem hk, List.flatMap_append, e]
  simp
theorem take_snoc' {l : List Int} {k : Nat} {x : Int} (h : l[k]? = some x) : l.take (k + 1) = l.take k ++ [x] := by
  obtain ⟨hk, e⟩ := List.getElem?_eq_some_iff.1 h
  rw [List.take_succ_eq_append_getElem hk, e]
theorem count_len (P : List Int) (x : Int) : P.count x ≤ P.length := List.count_le_length ..
theorem len_flat6 {α : Type} {f : α → List Int} : ∀ {l : List α} {n : Nat}, (∀ x ∈ l, (f x).length ≤ 6) → l.length ≤ n → (l.flatMap f).length ≤ 6 * n
  | [], n, _, _ => by simp
  | a :: l, n, h, hn => by
    have ih := len_flat6 (f := f) (l := l) (n := n - 1) (fun x hx => h x (List.mem_cons_of_mem _ hx)) (by simp only [List.length_cons] at hn; omega)
    have ha := h a List.mem_cons_self
    rw [List.flatMap_cons, List.length_append]
    simp only [List.length_cons] at hn
    omega
set_option maxHeartbeats 32000000 in
theorem loops_walk (l : List Ins) (hwl : ∀ i ∈ l, i.wf) (A : Option Addr) (c : Nat) (hlm : l.length ≤ maxLen) (w : World) (hx : SlX w w.heap.size A l) :
    Calls Try.prog 8 #[.slice A l.length c] w fun e w' => e = .returned (.bool true) ∧ Below w.heap.size w w' := by
  have HA := Lib.hid (fun w => alive_any w)
  have al : ∀ (W : World) (o : Obj), Below W.heap.size W (W.alloc o) := fun W o => (Below.refl _ W).alloc (Nat.le_refl _) o
  have HAl := Lib.hid al
  clear al
  unfold maxLen at hlm
  by_cases hl : 300 < l.length
  · have f1 : decide (300 < l.length) = true := decide_eq_true hl
    have f2 : decide (300 < (l.length : Int)) = true := decide_eq_true (by omega)
    clear hl hx hwl
    go_enter Try.func8, Try.ntmps8
    go_wp2_with fail
    refine (HA.out _).mono ?_
    rintro e w1 ⟨rfl, hb1⟩
    have HB1 := Lib.hid hb1
    clear hb1
    go_wp2
    go_ret
    exact ⟨rfl, HB1.out⟩
  have f1 : decide (300 < l.length) = false := decide_eq_false hl
  have f2 : decide (300 < (l.length : Int)) = false := decide_eq_false (by omega)
  have HR : Hid (∀ W, Below w.heap.size w W → Calls Try.prog 26 #[.agg #[.int .i64 0, .slice none 0 0, .slice none 0 0, .slice none 0 0], .slice A l.length c] W fun e w' => runOut (runS bed0 l) W e w') := fun W hb =>
    brun_any bed0 bedP0 bed0_wf ⟨by decide, by decide, by decide⟩ l (by omega) (fun _ _ => by have : bed0.made.length = 0 := rfl; omega) hwl A c W (bedAt0 _ _) ((hx.below hb).more hb.size)
  unfold runOut at HR
  by_cases hf : (runS bed0 l).2.2 = 0
  case neg =>
    have e1 : ((runS bed0 l).2.2 == 0) = false := by simp [hf]
    have e2 : ((runS bed0 l).2.2 != 0) = true := by simp [hf]
    unfold BedS.val at HR
    generalize (runS bed0 l).2.2 = f at HR e1 e2
    generalize (runS bed0 l).2.1 = m at HR
    generalize (runS bed0 l).1 = s at HR
    clear hl hx hwl hf
    go_enter Try.func8, Try.ntmps8
    go_wp2_with fail
    refine (HA.out _).mono ?_
    rintro e w1 ⟨rfl, hb1⟩
    have HB1 := Lib.hid hb1
    clear hb1
    go_wp2_with fail
    refine (HR.out _ HB1.out).mono ?_
    rintro e w2 ⟨q, rfl, -, hb2⟩
    have HB2 := Lib.hid (HB1.out.trans (hb2.mono HB1.out.size))
    clear hb2
    go_wp2
    go_ret
    exact ⟨rfl, HB2.out.alloc HB2.out.size _⟩
  case pos =>
    obtain ⟨hg, hm, hlost⟩ := lost_all (by omega) hwl hf
    rw [hf] at HR
    generalize (runS bed0 l).2.1 = m at HR
    generalize (runS bed0 l).1 = s at HR hg hm hlost
    have HGd := Lib.hid hg
    have HLo := Lib.hid hlost
    have HSX := Lib.hid hx
    have hsz := hg.sizes
    have HC : Hid (∀ b q W, Bx W b s q → Calls Try.prog 23 #[s.val q] W fun e w' => e = .returned (.int .i64 0) ∧ Below W.heap.size W w') := fun b q W hv => by
      have := rbcheck_any s q HGd.out.wf ⟨by omega, by omega, by omega⟩ W hv.state
      unfold RetB8 at this
      rwa [HGd.out.err] at this
    unfold BedS.val at HR HC
    clear hx hwl hf hg hlost
    obtain ⟨hn1, hn2, hn3⟩ := hsz
    obtain ⟨i1, hi', hz0', hz1', hz2'⟩ := info_parts info_int'
    go_enter Try.func8, Try.ntmps8
    go_wp2_with fail
    refine (HA.out _).mono ?_
    rintro e w1 ⟨rfl, hb1⟩
    have HB1 := Lib.hid hb1
    clear hb1
    go_wp2_with fail
    refine (HR.out _ HB1.out).mono ?_
    rintro e w2 ⟨q, rfl, hf2, hb2⟩
    have HX2 := Lib.hid (Bx.new hf2.at_)
    have hb2' := HB1.out.trans (hb2.mono HB1.out.size)
    have HB2 := Lib.hid (hb2'.alloc hb2'.size (bedBox s q))
    clear hb2 hb2' hf2
    go_wp2_with fail
    refine (HC.out _ _ _ HX2.out).mono ?_
    rintro e w0 ⟨rfl, hb3⟩
    have HX := Lib.hid (HX2.out.to hb3)
    have HB0 := Lib.hid (HB2.out.trans (hb3.mono HB2.out.size))
    obtain ⟨b, hbe⟩ : ∃ b, b = w2.heap.size := ⟨_, rfl⟩
    rw [← hbe] at HX ⊢
    clear hb3 hbe HX2 HB2 HC HR HA
    obtain ⟨c0, c1, c2, c3⟩ := HX.out.cells
    obtain ⟨w3, hmr, hob, hgb⟩ := run_make_full (P := Try.prog) w0 w0.heap.size 28 3 i1 (.int .i64 0) 1 Try.underlying28 hi' hz0' hz1' .i64 .i64 s.made.length (by rw [hz2']; omega) (by unfold maxLen; omega) (Nat.le_refl _)
    have hB3 : Below w0.heap.size w0 w3 := (Below.refl _ w0).grown hgb (Nat.le_refl _) (fun k e => by cases e)
    obtain ⟨sb, hsb⟩ : ∃ sb, sb = w0.heap.size := ⟨_, rfl⟩
    have hSe : CntAt w3 w0.heap.size sb s.made.length [] := by
      unfold CntAt
      have e : (madeCells (Value.int .i64 0).cells (s.made.length * 1)).toList = cnts s.made.length [] := by
        rw [Nat.mul_one]
        refine (toList_madeCells_one _ _).trans ?_
        unfold cnts
        simp
        rw [List.map_const', List.length_range]
      rw [← hsb] at hob
      rw [e] at hob
      rw [← hsb]
      exact hob
    have HSb : Hid (w0.heap.size ≤ sb) := by show w0.heap.size ≤ sb; omega
    rw [← hsb] at hmr
    have HL0 : Hid (LpA w0 sb s.made.length [] w3) := ⟨hSe, hB3⟩
    clear hob hgb hSe hB3 hsb
    go_wp2
    clear c0 c1 c2 c3 hmr
    have HHk : Hid (∀ h ∈ s.hooks, h.loops.length ≤ 6 ∧ ∀ x ∈ h.loops, ∃ y : Nat, x = (y : Int) ∧ y < s.made.length) := fun h hh => ⟨(HGd.out.hooks h hh).2.2.2, fun x hx => by
      have := HGd.out.dist.1 x (List.mem_flatMap.2 ⟨h, hh, hx⟩)
      exact ⟨x.toNat, by omega, by omega⟩⟩
    have HHm : Hid (∀ (k : Nat) (m : Mk), s.made[k]? = some m → m.parents.length ≤ 6 ∧ ∀ x ∈ m.parents, ∃ y : Nat, x = (y : Int) ∧ y < s.made.length) := fun k m hm => ⟨HGd.out.parents m (List.mem_of_getElem? hm), fun x hx => by
      have h := madeAll_at HGd.out.made hm
      unfold madeOk at h
      rw [Bool.and_eq_true] at h
      have h2 := (distB_iff.1 h.2).1 x hx
      have h3 := (List.getElem?_eq_some_iff.1 hm).1
      exact ⟨x.toNat, by omega, by omega⟩⟩
    go_loopw [8, 9] (fun s8 s9 wr => ∃ (i : Nat) (v9 : Value), i ≤ s.hooks.length ∧ s8 = .int .i64 (i : Int) ∧ v9 = s9 ∧ Hid (LpA w0 sb s.made.length ((s.hooks.take i).flatMap (·.loops)) wr)) (fun s8 _ _ => s.hooks.length - (intOf s8).toNat)
    case atStart => exact ⟨0, _, Nat.zero_le _, rfl, rfl, HL0.out⟩
    case round =>
      clear HL0
      obtain ⟨i, v9, hi, rfl, rfl, HL⟩ := hrel
      obtain ⟨c0, c1, c2, c3⟩ := bx_cells HL.out HX.out
      by_cases hlt : i < s.hooks.length
      case pos =>
        obtain ⟨hb, ho, h, A', C', hA, hB, hz, q0, q1, q2, hC, hsi⟩ := HX.out.state.hooks.at_ hlt
        obtain ⟨hh6, hhy⟩ := HHk.out h (List.mem_of_getElem? hz)
        have HFl := Lib.hid (take_flat (·.loops) hz)
        have HHy := Lib.hid hhy
        have d2 := (bcell HL.out.lo hB _).trans q2
        have HQ2 := Lib.hid (show _ ∧ _ from ⟨q2, hB⟩)
        have HSi := Lib.hid hsi
        have HAa := Lib.hid hA
        rw [hA] at c1
        clear hz hC hsi q0 q1 q2 hA hB hhy
        go_wp2
        clear d2 c0 c1 c2 c3
        obtain ⟨wo, hwo⟩ : ∃ wo : World, wo = wr := ⟨_, rfl⟩
        rw [← hwo] at HL ⊢
        clear hwo
        go_loopw [9] (fun s9 wr => ∃ k : Nat, k ≤ h.loops.length ∧ s9 = .int .i64 (k : Int) ∧ Hid (LpA w0 sb s.made.length ((s.hooks.take i).flatMap (·.loops) ++ h.loops.take k) wr)) (fun s9 _ => h.loops.length - (intOf s9).toNat)
        case atStart => exact ⟨0, Nat.zero_le _, rfl, HL.out.same (by simp)⟩
        case round =>
          clear HL
          obtain ⟨k, hk, rfl, HL⟩ := hrel
          obtain ⟨c0, c1, c2, c3⟩ := bx_cells HL.out HX.out
          have d2 := (bcell HL.out.lo HQ2.out.2 _).trans HQ2.out.1
          rw [HAa.out] at c1
          by_cases hlk : k < h.loops.length
          case pos =>
            obtain ⟨lb, lo, x, rfl, hlb, hxk, hcx⟩ := HSi.out.at_ hlk
            obtain ⟨y, rfl, hy⟩ := HHy.out x (List.mem_of_getElem? hxk)
            have hcc := (bcell HL.out.lo hlb _).trans hcx
            have hcy := HL.out.cnt.cell hy
            have hfz : wr.frozen? ⟨sb, y, none⟩ = false := World.ownsRow.frozenAt HL.out.cnt y
            have HMk := Lib.hid ((HL.out.mark HSb.out y).same (Q := (s.hooks.take i).flatMap (·.loops) ++ h.loops.take (k + 1)) (by rw [take_snoc' hxk, List.append_assoc]))
            have hcl : ((s.hooks.take i).flatMap (·.loops) ++ h.loops.take k).count (y : Int) ≤ 100000000 := by
              have h1 := count_len ((s.hooks.take i).flatMap (·.loops) ++ h.loops.take k) (y : Int)
              have h2 : ((s.hooks.take i).flatMap (·.loops)).length ≤ 6 * s.hooks.length := len_flat6 (fun z hz => (HHk.out z (List.mem_of_mem_take hz)).1) (by rw [List.length_take]; omega)
              rw [List.length_append, List.length_take] at h1
              omega
            generalize ((s.hooks.take i).flatMap (·.loops) ++ h.loops.take k).count (y : Int) = cn at hcy hcl HMk
            clear hxk hcx hlb
            go_wp2
            go_roundw
            case rel => exact ⟨k + 1, by omega, by go_num, HMk.out⟩
            case measure => simp [intOf]; omega
          case neg =>
            have HL2 := Lib.hid (HL.out.same (Q := (s.hooks.take (i + 1)).flatMap (·.loops)) (by rw [HFl.out, show List.take k h.loops = h.loops from List.take_of_length_le (by omega)]))
            clear HL
            go_wp2
            go_roundw
            case rel => exact ⟨i + 1, _, by omega, by go_num, rfl, HL2.out⟩
            case measure => simp [intOf]; omega
      case neg =>
        have HL2 := Lib.hid (HL.out.same (Q := heldL s ++ ((s.made.take 0).flatMap (·.parents))) (by rw [List.take_of_length_le (by omega)]; simp [heldL]))
        clear HL HHk
        go_wp2
        clear c0 c1 c2 c3
        obtain ⟨wo, hwo⟩ : ∃ wo : World, wo = wr := ⟨_, rfl⟩
        rw [← hwo] at HL2 ⊢
        clear hwo
        go_loopw [10, 11] (fun s10 s11 wr => ∃ (j : Nat) (v11 : Value), j ≤ s.made.length ∧ s10 = .int .i64 (j : Int) ∧ v11 = s11 ∧ Hid (LpA w0 sb s.made.length (heldL s ++ (s.made.take j).flatMap (·.parents)) wr)) (fun s10 _ _ => s.made.length - (intOf s10).toNat)
        case atStart => exact ⟨0, _, Nat.zero_le _, rfl, rfl, HL2.out⟩
        case round =>
          clear HL2
          obtain ⟨j, v11, hj, rfl, rfl, HL⟩ := hrel
          obtain ⟨c0, c1, c2, c3⟩ := bx_cells HL.out HX.out
          by_cases hlt2 : j < s.made.length
          case pos =>
            obtain ⟨mb, mo, mk, A', C', hA, hB, hz, q0, q1, q2, q3, hC, hsi⟩ := HX.out.state.made.at_ hlt2
            obtain ⟨hh6, hhy⟩ := HHm.out j mk hz
            have HFl := Lib.hid (take_flat (·.parents) hz)
            have HHy := Lib.hid hhy
            have d0 := (bcell HL.out.lo hB _).trans q0
            have HQ0 := Lib.hid (show _ ∧ _ from ⟨q0, hB⟩)
            have HSi := Lib.hid hsi
            have HAa := Lib.hid hA
            rw [hA] at c3
            clear hz hC hsi q0 q1 q2 q3 hA hB hhy
            go_wp2
            clear d0 c0 c1 c2 c3
            obtain ⟨wo2, hwo⟩ : ∃ wo : World, wo = wr := ⟨_, rfl⟩
            rw [← hwo] at HL ⊢
            clear hwo
            go_loopw [11] (fun s11 wr => ∃ k : Nat, k ≤ mk.parents.length ∧ s11 = .int .i64 (k : Int) ∧ Hid (LpA w0 sb s.made.length (heldL s ++ (s.made.take j).flatMap (·.parents) ++ mk.parents.take k) wr)) (fun s11 _ => mk.parents.length - (intOf s11).toNat)
            case atStart => exact ⟨0, Nat.zero_le _, rfl, HL.out.same (by simp)⟩
            case round =>
              clear HL
              obtain ⟨k, hk, rfl, HL⟩ := hrel
              obtain ⟨c0, c1, c2, c3⟩ := bx_cells HL.out HX.out
              have d0 := (bcell HL.out.lo HQ0.out.2 _).trans HQ0.out.1
              rw [HAa.out] at c3
              by_cases hlk : k < mk.parents.length
              case pos =>
                obtain ⟨lb, lo, x, rfl, hlb, hxk, hcx⟩ := HSi.out.at_ hlk
                obtain ⟨y, rfl, hy⟩ := HHy.out x (List.mem_of_getElem? hxk)
                have hcc := (bcell HL.out.lo hlb _).trans hcx
                have hcy := HL.out.cnt.cell hy
                have hfz : wr.frozen? ⟨sb, y, none⟩ = false := World.ownsRow.frozenAt HL.out.cnt y
                have HMk := Lib.hid ((HL.out.mark HSb.out y).same (Q := heldL s ++ (s.made.take j).flatMap (·.parents) ++ mk.parents.take (k + 1)) (by rw [take_snoc' hxk, List.append_assoc (heldL s ++ _)]))
                have hcl : (heldL s ++ (s.made.take j).flatMap (·.parents) ++ mk.parents.take k).count (y : Int) ≤ 100000000 := by
                  have h1 := count_len (heldL s ++ (s.made.take j).flatMap (·.parents) ++ mk.parents.take k) (y : Int)
                  have h2 : ((s.made.take j).flatMap (·.parents)).length ≤ 6 * s.made.length := len_flat6 (fun z hz => HGd.out.parents z (List.mem_of_mem_take hz)) (by rw [List.length_take]; omega)
                  have h3 : (heldL s).length ≤ 6 * s.hooks.length := len_flat6 (fun z hz => (HGd.out.hooks z hz).2.2.2) (Nat.le_refl _)
                  rw [List.length_append, List.length_append, List.length_take] at h1
                  omega
                generalize (heldL s ++ (s.made.take j).flatMap (·.parents) ++ mk.parents.take k).count (y : Int) = cn at hcy hcl HMk
                clear hxk hcx hlb
                go_wp2
                go_roundw
                case rel => exact ⟨k + 1, by omega, by go_num, HMk.out⟩
                case measure => simp [intOf]; omega
              case neg =>
                have HL2 := Lib.hid (HL.out.same (Q := heldL s ++ (s.made.take (j + 1)).flatMap (·.parents)) (by rw [HFl.out, show List.take k mk.parents = mk.parents from List.take_of_length_le (by omega), List.append_assoc]))
                clear HL
                go_wp2
                go_roundw
                case rel => exact ⟨j + 1, _, by omega, by go_num, rfl, HL2.out⟩
                case measure => simp [intOf]; omega
          case neg =>
            have HL2 := Lib.hid (HL.out.same (Q := seenL s) (by rw [List.take_of_length_le (by omega)]; rfl))
            clear HL HHm
            go_wp2
            clear c0 c1 c2 c3
            obtain ⟨wo3, hwo⟩ : ∃ wo : World, wo = wr := ⟨_, rfl⟩
            rw [← hwo] at HL2 ⊢
            clear hwo
            go_loopw [12, 14] (fun s12 s14 wr => ∃ k : Nat, k ≤ l.length ∧ s14 = .int .i64 (k : Int) ∧ s12 = .int .i64 ((dropN (l.take k) : Nat) : Int) ∧ Hid (LpA w0 sb s.made.length (seenL s) wr)) (fun _ s14 _ => l.length - (intOf s14).toNat)
            case atStart => exact ⟨0, Nat.zero_le _, rfl, rfl, HL2.out⟩
            case round =>
              clear HL2
              obtain ⟨k, hk, rfl, rfl, HL⟩ := hrel
              by_cases hlk : k < l.length
              case pos =>
                obtain ⟨ib, io, ii, hA, hB, hz, hci⟩ := HSX.out.at_ hlk
                have hbw : Below w.heap.size w wr := HB0.out.trans (HL.out.lo.mono HB0.out.size)
                obtain ⟨x0, -, -, -, -, -, -⟩ := hci.below hbw hB
                have HD := Lib.hid (drop_succ hz)
                have hdl : dropN (l.take k) ≤ 300 := by
                  have := dropN_le (l.take k)
                  rw [List.length_take] at this
                  omega
                subst hA
                generalize dropN (l.take k) = dn at HD hdl ⊢
                clear hz hci hB hbw
                by_cases ho : ii.op = 9
                · have b9 : (ii.op == 9) = true := by simp [ho]
                  rw [if_pos ho] at HD
                  clear ho
                  go_wp2
                  go_roundw
                  case rel => exact ⟨k + 1, by omega, by go_num, by rw [HD.out]; go_num, HL.out⟩
                  case measure => simp [intOf]; omega
                · have b9 : (ii.op == 9) = false := by simp [ho]
                  rw [if_neg ho] at HD
                  clear ho
                  go_wp2
                  go_roundw
                  case rel => exact ⟨k + 1, by omega, by go_num, by rw [HD.out]; rfl, HL.out⟩
                  case measure => simp [intOf]; omega
              case neg =>
                have HD : Hid (dropN (l.take k) = dropN l) := by show dropN (l.take k) = dropN l; rw [List.take_of_length_le (by omega)]
                have hdl := dropN_le l
                rw [HD.out]
                have HDl := Lib.hid hdl
                have hlo := HLo.out
                generalize dropN l = dn at hdl hlo ⊢
                have HLo2 := Lib.hid hlo
                clear HD HDl hlo HLo
                go_wp2
                obtain ⟨wo4, hwo⟩ : ∃ wo : World, wo = wr := ⟨_, rfl⟩
                rw [← hwo] at HL ⊢
                clear hwo
                go_loopw [13, 15] (fun s13 s15 wr => ∃ k : Nat, k ≤ s.made.length ∧ s15 = .int .i64 (k : Int) ∧ s13 = .int .i64 ((lostN (seenL s) k : Nat) : Int) ∧ Hid (LpA w0 sb s.made.length (seenL s) wr)) (fun _ s15 _ => s.made.length - (intOf s15).toNat)
                case atStart => exact ⟨0, Nat.zero_le _, rfl, rfl, HL.out⟩
                case round =>
                  clear HL
                  obtain ⟨k2, hk2, rfl, rfl, HL⟩ := hrel
                  have hll := lostN_le (seenL s) k2
                  by_cases hlk2 : k2 < s.made.length
                  case pos =>
                    have hcy := HL.out.cnt.cell hlk2
                    have HS := Lib.hid (lost_succ (Q := seenL s) (k := k2))
                    generalize lostN (seenL s) k2 = ln at HS hll ⊢
                    by_cases hmem : ((k2 : Nat) : Int) ∈ seenL s
                    · have hpos := List.count_pos_iff.2 hmem
                      rw [if_pos hmem] at HS
                      generalize (seenL s).count ((k2 : Nat) : Int) = cn at hcy hpos
                      have z : ((cn : Int) == 0) = false := by simp; omega
                      clear hmem
                      go_wp2
                      go_roundw
                      case rel => exact ⟨k2 + 1, by omega, by go_num, by rw [HS.out]; rfl, HL.out⟩
                      case measure => simp [intOf]; omega
                    · have hzero := List.count_eq_zero.2 hmem
                      rw [if_neg hmem] at HS
                      rw [hzero] at hcy
                      clear hmem hzero
                      go_wp2
                      go_roundw
                      case rel => exact ⟨k2 + 1, by omega, by go_num, by rw [HS.out]; go_num, HL.out⟩
                      case measure => simp [intOf]; omega
                  case neg =>
                    have hke : k2 = s.made.length := by omega
                    have hle := HLo2.out
                    rw [← hke] at hle
                    generalize lostN (seenL s) k2 = ln at hle hll ⊢
                    have hfin : (ln : Int) ≤ 6 * (dn : Int) := by omega
                    have hfin2 : decide ((ln : Int) ≤ 6 * (dn : Int)) = true := decide_eq_true hfin
                    have hdn : dn ≤ 300 := by omega
                    clear hke
                    go_wp2
                    go_ret
                    exact ⟨rfl, HB0.out.trans (HL.out.lo.mono HB0.out.size)⟩
end Go.Proofs.Ytjoglkamhjcmhaa
