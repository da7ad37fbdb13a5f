/- Layer 34, contracts: the floats of a colour in a row, the program's and the reference's. Layer 34, contracts: the reference's floats; Floats of both. Layer 34, contracts: the iterator over the lengths of all floats. Layer 34, contracts: the iterator's walk. -/
import Derived.Test.YthedmiilkeclaaaGreatKRa
import Derived.Test.YthedmiilkeclaaaGreatKPd
namespace Go.Proofs.YthedmiilkeclaaaGreat
open Go.RowKit
open Go.Proofs.YthedmiilkeclaaaGreat.I34
set_option maxRecDepth 100000

theorem info_pair : (Tryz.prog.info? 75).map (fun i => (i.zero, i.size, i.bytes)) = some (some (.agg #[.int .i64 0, .int .i64 0]), 2, 16) := by kernel_rfl
def pairCells (l : List (Nat × Nat)) : List Value := l.flatMap fun f => [.int .i64 (f.1 : Int), .int .i64 (f.2 : Int)]
theorem pairCells_snoc (l : List (Nat × Nat)) (x y : Nat) : pairCells (l ++ [(x, y)]) = pairCells l ++ [.int .i64 (x : Int), .int .i64 (y : Int)] := by simp [pairCells]
/-- The slot 'last', where nothing has been seen: n. -/
def lastOr (n : Int) (o : Option Nat) : Int := match o with
  | some l => (l : Int)
  | none => n
theorem floTo_last_lt (row : List Int) (colour : Int) (k l : Nat) (h : (floTo row colour k).2 = some l) : l < k := ((floTo_row row colour k).1 l h).1
theorem floTo_len (row : List Int) (colour : Int) : ∀ k, (floTo row colour k).1.length ≤ k
  | 0 => by simp [floTo]
  | k + 1 => by
    have ih := floTo_len row colour k
    simp only [floTo, floStep]
    split
    · split
      · split
        · simp; omega
        · show (floTo row colour k).1.length ≤ k + 1; omega
      · show (floTo row colour k).1.length ≤ k + 1; omega
    · omega
theorem floTo_skip {row : List Int} {colour : Int} {k : Nat} {z : Int} (hz : row[k]? = some z) (h : z ≠ colour) : floTo row colour (k + 1) = floTo row colour k := by
  simp only [floTo, floStep, List.getD, hz, Option.getD_some, h, if_false]
theorem floTo_take {row : List Int} {colour : Int} {k : Nat} {z : Int} {l : Nat} (hz : row[k]? = some z) (h : z = colour) (hl : (floTo row colour k).2 = some l) (hlt : l + 1 < k) :
    floTo row colour (k + 1) = ((floTo row colour k).1 ++ [(l, k)], some k) := by
  simp only [floTo, floStep, List.getD, hz, Option.getD_some, h, if_true, hl, hlt]
theorem floTo_near {row : List Int} {colour : Int} {k : Nat} {z : Int} {l : Nat} (hz : row[k]? = some z) (h : z = colour) (hl : (floTo row colour k).2 = some l) (hlt : ¬ l + 1 < k) :
    floTo row colour (k + 1) = ((floTo row colour k).1, some k) := by
  simp only [floTo, floStep, List.getD, hz, Option.getD_some, h, if_true, hl, hlt, if_false]
theorem floTo_first {row : List Int} {colour : Int} {k : Nat} {z : Int} (hz : row[k]? = some z) (h : z = colour) (hl : (floTo row colour k).2 = none) :
    floTo row colour (k + 1) = ((floTo row colour k).1, some k) := by
  simp only [floTo, floStep, List.getD, hz, Option.getD_some, h, if_true, hl]

set_option maxHeartbeats 4000000 in
theorem floats_any (A : Option Addr) (c : Nat) (row : List Int) (colour : Int) (w : World) (h : SlI w w.heap.size A row) (hn : row.length ≤ 1000) :
    Calls Tryz.prog 27 #[.slice A row.length c, .int .i64 colour] w fun e w' =>
      ∃ v, e = .returned v ∧ w'.ownsRow w.heap.size 75 2 v (flo row colour).length (pairCells (flo row colour)) ∧ Below w.heap.size w w' := by
  obtain ⟨i0, hi, hz0, hz1, hz2⟩ := info_parts info_pair
  go_enter Tryz.func27, Tryz.ntmps27
  go_wp2
  go_loopw [4, 5, 12] (fun out last i wr => ∃ k : Nat, k ≤ row.length ∧ i = .int .i64 k ∧ last = .int .i64 (lastOr row.length (floTo row colour k).2) ∧
      wr.ownsRow w.heap.size 75 2 out (floTo row colour k).1.length (pairCells (floTo row colour k).1) ∧ Below w.heap.size w wr) (fun _ _ i _ => row.length - (intOf i).toNat)
  case atStart => exact ⟨0, Nat.zero_le _, rfl, rfl, World.ownsRow_nil _ _ _ _, Below.refl _ _⟩
  case round =>
    obtain ⟨k, hk, rfl, rfl, hown, hbw⟩ := hrel
    by_cases hlt : k < row.length
    · obtain ⟨b, off, z, rfl, hB, hz, hcz⟩ := h.at_ hlt
      have hc := (bcell hbw hB _).trans hcz
      have HZ : Hid (row[k]? = some z) := hz
      clear hz hcz h
      by_cases he : z = colour
      · subst he
        have hlen := floTo_len row z k
        cases hl : (floTo row z k).2 with
        | none =>
          have HF := Lib.hid (floTo_first HZ.out rfl hl)
          clear hl
          generalize (floTo row z k).1 = fl at hown HF
          simp only [lastOr]
          go_wp2
          go_roundw
          case rel => exact ⟨k + 1, by omega, by go_num, by rw [HF.out], by rw [HF.out]; exact hown, hbw⟩
          case measure => simp [intOf]; omega
        | some l =>
          have hlk := floTo_last_lt _ _ _ _ hl
          by_cases hnear : l + 1 < k
          · have HF := Lib.hid (floTo_take HZ.out rfl hl hnear)
            clear hl
            generalize (floTo row z k).1 = fl at hown HF hlen
            simp only [lastOr]
            go_wp2_with (at_builtin; refine wpList_append_own _ rfl _ _ 32 rfl w.heap.size 75 i0 (.agg #[.int .i64 0, .int .i64 0]) 2 16 Tryz.underlying32 hi hz0 hz1 hz2 rfl (by decide) _ _ _ rfl (hown.alloc _) ⟨wr.heap.size, 0, none⟩ 1 1 [.int .i64 (l : Int), .int .i64 (k : Int)] rfl rfl (cell_two_new _ _ _ _) (by simp [Value.oneCell']) (by unfold maxLen; omega) (by omega) (by have := hbw.size; simp; omega) ?_; intro v' w1 hown' hgrow _; have hbw1 := own_step hbw hown hbw.size hgrow; clear hgrow hown hbw)
            go_roundw
            case rel => exact ⟨k + 1, by omega, by go_num, by rw [HF.out], by rw [HF.out, pairCells_snoc, List.length_append]; exact hown', hbw1⟩
            case measure => simp [intOf]; omega
          · have HF := Lib.hid (floTo_near HZ.out rfl hl hnear)
            clear hl
            generalize (floTo row z k).1 = fl at hown HF
            simp only [lastOr]
            go_wp2
            go_roundw
            case rel => exact ⟨k + 1, by omega, by go_num, by rw [HF.out], by rw [HF.out]; exact hown, hbw⟩
            case measure => simp [intOf]; omega
      · have HF := Lib.hid (floTo_skip HZ.out he)
        have hb : (z == colour) = false := beq_eq_false_iff_ne.2 he
        clear he
        generalize floTo row colour k = fl at hown HF ⊢
        go_wp2
        go_roundw
        case rel => exact ⟨k + 1, by omega, by go_num, by rw [HF.out], by rw [HF.out]; exact hown, hbw⟩
        case measure => simp [intOf]; omega
    · obtain rfl : k = row.length := by omega
      clear h
      go_wp2
      go_ret
      exact ⟨_, rfl, hown, hbw⟩
end Go.Proofs.YthedmiilkeclaaaGreat
namespace Go.Proofs.YthedmiilkeclaaaGreat
open Go.RowKit
open Go.Proofs.YthedmiilkeclaaaGreat.I34
set_option maxRecDepth 100000

set_option maxHeartbeats 4000000 in
theorem rfloats_any (A : Option Addr) (c : Nat) (row : List Int) (colour : Int) (w : World) (h : SlI w w.heap.size A row) (hn : row.length ≤ 1000) :
    Calls Tryz.prog 92 #[.slice A row.length c, .int .i64 colour] w fun e w' =>
      ∃ v, e = .returned v ∧ w'.ownsRow w.heap.size 75 2 v (flo row colour).length (pairCells (flo row colour)) ∧ Below w.heap.size w w' := by
  obtain ⟨i0, hi, hz0, hz1, hz2⟩ := info_parts info_pair
  go_enter Tryz.func92, Tryz.ntmps92
  go_wp2
  go_loopw [5, 6, 7] (fun out last i wr => ∃ k : Nat, k ≤ row.length ∧ i = .int .i64 k ∧ last = .int .i64 (lastOr (-1) (floTo row colour k).2) ∧
      wr.ownsRow w.heap.size 75 2 out (floTo row colour k).1.length (pairCells (floTo row colour k).1) ∧ Below w.heap.size w wr) (fun _ _ i _ => row.length - (intOf i).toNat)
  case atStart => exact ⟨0, Nat.zero_le _, rfl, rfl, World.ownsRow_nil _ _ _ _, Below.refl _ _⟩
  case round =>
    obtain ⟨k, hk, rfl, rfl, hown, hbw⟩ := hrel
    by_cases hlt : k < row.length
    · obtain ⟨b, off, z, rfl, hB, hz, hcz⟩ := h.at_ hlt
      have hc := (bcell hbw hB _).trans hcz
      have HZ : Hid (row[k]? = some z) := hz
      clear hz hcz h
      by_cases he : z = colour
      · subst he
        have hlen := floTo_len row z k
        cases hl : (floTo row z k).2 with
        | none =>
          have HF := Lib.hid (floTo_first HZ.out rfl hl)
          clear hl
          generalize (floTo row z k).1 = fl at hown HF
          simp only [lastOr]
          go_wp2
          go_roundw
          case rel => exact ⟨k + 1, by omega, by go_num, by rw [HF.out], by rw [HF.out]; exact hown, hbw⟩
          case measure => simp [intOf]; omega
        | some l =>
          have hlk := floTo_last_lt _ _ _ _ hl
          have hl0 : (0 : Int) ≤ (l : Int) := by omega
          by_cases hnear : l + 1 < k
          · have HF := Lib.hid (floTo_take HZ.out rfl hl hnear)
            clear hl
            generalize (floTo row z k).1 = fl at hown HF hlen
            simp only [lastOr]
            go_wp2_with (at_builtin; refine wpList_append_own _ rfl _ _ 32 rfl w.heap.size 75 i0 (.agg #[.int .i64 0, .int .i64 0]) 2 16 Tryz.underlying32 hi hz0 hz1 hz2 rfl (by decide) _ _ _ rfl (hown.alloc _) ⟨wr.heap.size, 0, none⟩ 1 1 [.int .i64 (l : Int), .int .i64 (k : Int)] rfl rfl (cell_two_new _ _ _ _) (by simp [Value.oneCell']) (by unfold maxLen; omega) (by omega) (by have := hbw.size; simp; omega) ?_; intro v' w1 hown' hgrow _; have hbw1 := own_step hbw hown hbw.size hgrow; clear hgrow hown hbw)
            go_roundw
            case rel => exact ⟨k + 1, by omega, by go_num, by rw [HF.out], by rw [HF.out, pairCells_snoc, List.length_append]; exact hown', hbw1⟩
            case measure => simp [intOf]; omega
          · have HF := Lib.hid (floTo_near HZ.out rfl hl hnear)
            clear hl
            generalize (floTo row z k).1 = fl at hown HF
            simp only [lastOr]
            go_wp2
            go_roundw
            case rel => exact ⟨k + 1, by omega, by go_num, by rw [HF.out], by rw [HF.out]; exact hown, hbw⟩
            case measure => simp [intOf]; omega
      · have HF := Lib.hid (floTo_skip HZ.out he)
        have hb : (z == colour) = false := beq_eq_false_iff_ne.2 he
        clear he
        generalize floTo row colour k = fl at hown HF ⊢
        go_wp2
        go_roundw
        case rel => exact ⟨k + 1, by omega, by go_num, by rw [HF.out], by rw [HF.out]; exact hown, hbw⟩
        case measure => simp [intOf]; omega
    · obtain rfl : k = row.length := by omega
      clear h
      go_wp2
      go_ret
      exact ⟨_, rfl, hown, hbw⟩

def flR (p : List (List Int)) (row colour : Int) : List (Nat × Nat) × Int :=
  if chk p ≠ 0 then ([], chk p) else if row < 0 ∨ (p.length : Int) ≤ row ∨ colour < 1 ∨ 6 < colour then ([], 2) else (flo (p.getD row.toNat []) colour, 0)
theorem flR_e {p : List (List Int)} {row colour : Int} (h : chk p ≠ 0) : flR p row colour = ([], chk p) := by rw [flR, if_pos h]
theorem flR_arg {p : List (List Int)} {row colour : Int} (h : chk p = 0) (h2 : row < 0 ∨ (p.length : Int) ≤ row ∨ colour < 1 ∨ 6 < colour) : flR p row colour = ([], 2) := by rw [flR, if_neg (by simpa using h), if_pos h2]
theorem flR_ok {p : List (List Int)} {k : Nat} {colour : Int} {r : List Int} (h : chk p = 0) (h2 : 1 ≤ colour ∧ colour ≤ 6) (hr : p[k]? = some r) : flR p (k : Int) colour = (flo r colour, 0) := by
  have hk := (List.getElem?_eq_some_iff.1 hr).1
  rw [flR, if_neg (by simpa using h), if_neg (by omega), Int.toNat_natCast, List.getD, hr, Option.getD_some]
theorem chk_zero {p : List (List Int)} (h : chk p = 0) : p.length ≤ 100 ∧ ∀ row ∈ p, 0 < row.length ∧ row.length ≤ 101 := by
  unfold chk at h
  split at h
  · omega
  · split at h
    · omega
    · rename_i h1 h2
      refine ⟨by omega, fun row hr => ?_⟩
      rw [List.any_eq_true] at h2
      have h3 : rowBad (p.headD []).length row ≠ true := fun e => h2 ⟨row, hr, e⟩
      rw [Ne, Bool.not_eq_true] at h3
      unfold rowBad at h3
      rw [Bool.or_eq_false_iff, Bool.or_eq_false_iff, Bool.or_eq_false_iff] at h3
      have h4 := of_decide_eq_false h3.1.1.1
      have h5 := of_decide_eq_false h3.1.1.2
      omega
theorem chk_vals (p : List (List Int)) : 0 ≤ chk p ∧ chk p ≤ 8 := by
  unfold chk
  split
  · omega
  · split <;> omega

def FlPost (w : World) (x : List (Nat × Nat) × Int) (e : Ending) (w' : World) : Prop :=
  ∃ v, e = .returned (.tuple #[v, .int .i64 x.2]) ∧ w'.ownsRow w.heap.size 75 2 v x.1.length (pairCells x.1) ∧ Below w.heap.size w w'

set_option maxHeartbeats 4000000 in
theorem Floats_any (A : Option Addr) (c : Nat) (p : List (List Int)) (row colour : Int) (w : World) (h : SlRows w w.heap.size A p) (hrl : ∀ row ∈ p, row.length ≤ 4611686018427387904) :
    Calls Tryz.prog 7 #[.slice A p.length c, .int .i64 row, .int .i64 colour] w (FlPost w (flR p row colour)) := by
  have hcall := check_any A c p w h hrl
  by_cases he : chk p = 0
  · rw [he] at hcall
    by_cases harg : row < 0 ∨ (p.length : Int) ≤ row ∨ colour < 1 ∨ 6 < colour
    · have HF := Lib.hid (flR_arg he harg)
      clear he h hrl
      have hcases : row < 0 ∨ (0 ≤ row ∧ (p.length : Int) ≤ row) ∨ (0 ≤ row ∧ row < (p.length : Int) ∧ colour < 1) ∨ (0 ≤ row ∧ row < (p.length : Int) ∧ 1 ≤ colour ∧ 6 < colour) := by omega
      clear harg
      rcases hcases with h1 | ⟨h1, h2⟩ | ⟨h1, h2, h3⟩ | ⟨h1, h2, h3, h4⟩
      all_goals
        go_enter Tryz.func7, Tryz.ntmps7
        go_wp2_with (go_at_call 6; refine hcall.mono ?_; rintro e w' ⟨rfl, rfl⟩)
        go_ret2
        exact ⟨.slice none 0 0, by rw [HF.out]; rfl, by rw [HF.out]; exact World.ownsRow_nil _ _ _ _, Below.refl _ _⟩
    · have hb : 0 ≤ row ∧ row < (p.length : Int) ∧ 1 ≤ colour ∧ colour ≤ 6 := by omega
      clear harg
      obtain ⟨h1, h2, h3, h4⟩ := hb
      obtain ⟨k, rfl⟩ := Int.eq_ofNat_of_zero_le h1
      have hk : k < p.length := by omega
      obtain ⟨b, off, r, A', C', rfl, hB, hr, hc, hs⟩ := h.at_ hk
      have HF := Lib.hid (flR_ok he ⟨h3, h4⟩ hr)
      have hrl2 := ((chk_zero he).2 r (List.mem_of_getElem? hr)).2
      clear he hr h hrl
      go_enter Tryz.func7, Tryz.ntmps7
      go_wp2_with fail
      refine hcall.mono ?_
      rintro e w' ⟨rfl, rfl⟩
      
      go_wp2_with fail
      refine (floats_any A' C' r colour _ (hs) (by omega)).mono ?_
      rintro e w2 ⟨v, rfl, hown, hb2⟩
      go_wp2
      go_ret2
      exact ⟨v, by rw [HF.out]; rfl, by rw [HF.out]; exact hown, hb2⟩
  · have HF := Lib.hid (flR_e (row := row) (colour := colour) he)
    have hv := chk_vals p
    have hb0 : (chk p == 0) = false := beq_eq_false_iff_ne.2 he
    clear he h hrl
    
    generalize chk p = ec at hcall HF hv hb0
    go_enter Tryz.func7, Tryz.ntmps7
    go_wp2_with (go_at_call 6; refine hcall.mono ?_; rintro e w' ⟨rfl, rfl⟩)
    go_ret2
    exact ⟨.slice none 0 0, by rw [HF.out]; rfl, by rw [HF.out]; exact World.ownsRow_nil _ _ _ _, Below.refl _ _⟩

theorem own_base {w : World} {B B' : Nat} {e : TypeId} {size n : Nat} {v : Value} {xs : List Value} (h : w.ownsRow B e size v n xs) (hB : B' ≤ B) : w.ownsRow B' e size v n xs :=
  ⟨h.1, h.2.imp id fun ⟨g, cap, cur, hv, hg, r⟩ => ⟨g, cap, cur, hv, by omega, r⟩⟩

end Go.Proofs.YthedmiilkeclaaaGreat
namespace Go.Proofs.YthedmiilkeclaaaGreat
open Go.RowKit Go.Shelf
open Go.Proofs.YthedmiilkeclaaaGreat.I34
attribute [local go_sem] Oper.semAt_some
set_option maxRecDepth 100000

abbrev F101 := Fin 101
def toF (l : List Nat) : List F101 := l.map fun n => ⟨n % 101, Nat.mod_lt _ (by omega)⟩
def encF (x : F101) : Array Value := #[.int .i64 ((x.1 : Nat) : Int)]
theorem toF_snoc (l : List Nat) (n : Nat) : toF (l ++ [n]) = toF l ++ [⟨n % 101, Nat.mod_lt _ (by omega)⟩] := by simp [toF]
theorem toF_length (l : List Nat) : (toF l).length = l.length := by simp [toF]

/-- What has come: the rows before the i-th one, the colours before c, the first j floats. -/
def came (p : List (List Int)) (i c j : Nat) : List Nat :=
  lens (p.take i) ++ (((List.range c).flatMap fun c => rowLens (p.getD i []) c) ++ (rowLens (p.getD i []) c).take j)
theorem lens_append (a b : List (List Int)) : lens (a ++ b) = lens a ++ lens b := by unfold lens; rw [List.flatMap_append]
theorem lens_cons (r : List Int) (b : List (List Int)) : lens (r :: b) = ((List.range 6).flatMap fun c => rowLens r c) ++ lens b := by unfold lens; rw [List.flatMap_cons]
theorem came_zero (p : List (List Int)) : came p 0 0 0 = [] := by simp [came, lens]
theorem came_float {p : List (List Int)} {i c j : Nat} {f : Nat × Nat} (h : (flo (p.getD i []) ((c : Int) + 1))[j]? = some f) : came p i c (j + 1) = came p i c j ++ [lenOf f] := by
  have hj : (rowLens (p.getD i []) c)[j]? = some (lenOf f) := by unfold rowLens; rw [List.getElem?_map, h]; rfl
  obtain ⟨hlt, e⟩ := List.getElem?_eq_some_iff.1 hj
  unfold came
  rw [List.take_succ_eq_append_getElem hlt, e]
  simp
theorem came_colour {p : List (List Int)} {i c j : Nat} (h : (rowLens (p.getD i []) c).length ≤ j) : came p i (c + 1) 0 = came p i c j := by
  unfold came
  rw [List.take_of_length_le h, List.range_succ, List.flatMap_append]
  simp
theorem came_row {p : List (List Int)} {i : Nat} (h : i < p.length) : came p (i + 1) 0 0 = came p i 6 0 := by
  unfold came
  have e : p.getD i [] = p[i] := by simp [List.getD, h]
  rw [List.take_succ_eq_append_getElem h, e, lens_append, lens_cons]
  simp [lens]
theorem came_all {p : List (List Int)} {i : Nat} (h : p.length ≤ i) : came p i 0 0 = lens p := by
  unfold came
  rw [List.take_of_length_le h]; simp
theorem came_prefix {p : List (List Int)} {i c j : Nat} (hi : i < p.length) (hc : c < 6) : came p i c j <+: lens p := by
  have e : p.getD i [] = p[i] := by simp [List.getD, hi]
  have h1 : came p i c j <+: came p i (c + 1) 0 := by
    unfold came
    rw [List.range_succ, List.flatMap_append]
    simp only [List.flatMap_cons, List.flatMap_nil, List.append_nil, List.take_zero]
    rw [List.prefix_append_right_inj, List.prefix_append_right_inj]
    exact List.take_prefix _ _
  have h2 : came p i (c + 1) 0 <+: lens p := by
    unfold came
    have e2 : lens p = lens (p.take i) ++ (((List.range 6).flatMap fun c => rowLens (p.getD i []) c) ++ lens (p.drop (i + 1))) := by
      have e3 : p = p.take i ++ (p[i] :: p.drop (i + 1)) := by rw [← List.drop_eq_getElem_cons hi]; exact (List.take_append_drop i p).symm
      conv => lhs; rw [e3]
      rw [e, lens_append, lens_cons]
    rw [e2, List.prefix_append_right_inj, List.take_zero, List.append_nil]
    refine List.IsPrefix.trans ?_ (List.prefix_append _ _)
    have : List.range 6 = List.range (c + 1) ++ (List.range (6 - (c + 1))).map (c + 1 + ·) := by
      rw [show (6 : Nat) = (c + 1) + (6 - (c + 1)) by omega, List.range_add]
      simp
    rw [this, List.flatMap_append]
    exact List.prefix_append _ _
  exact h1.trans h2
theorem came_lt {p : List (List Int)} {i c j : Nat} {f : Nat × Nat} (hi : i < p.length) (hc : c < 6) (h : (flo (p.getD i []) ((c : Int) + 1))[j]? = some f) : (came p i c j).length < (lens p).length := by
  have h1 := (came_prefix (j := j + 1) hi hc).length_le
  rw [came_float h] at h1
  simp at h1; omega
theorem Row.bounds {N : Nat} : ∀ {l : List (Nat × Nat)} {a j : Nat} {f : Nat × Nat}, Row a N l → l[j]? = some f → f.1 + 1 < f.2 ∧ f.2 < N
  | [], _, _, _, _, h => by simp at h
  | g :: l, _, 0, f, ⟨_, h2, h3, _⟩, h => by simp at h; subst h; exact ⟨h2, h3⟩
  | g :: l, _, j + 1, f, ⟨_, _, _, h4⟩, h => Row.bounds h4 (by simpa using h)

theorem lengths_any (A : Option Addr) (n c : Nat) (w : World) :
    Calls Tryz.prog 28 #[.slice A n c] w fun e w' => e = .returned (.func (.func 47) #[] #[.pointer (some ⟨w.heap.size, 0, none⟩)]) ∧ w.alloc (.cells #[.slice A n c] 23) = w' := by
  have hmf : ∀ (fn : Fn) (first cap : Array Value) (w : World), (Instr.makeFunc fn first cap).run Tryz.prog w = .ok (.func fn first cap) w := fun _ _ _ _ => rfl
  go_enter Tryz.func28, Tryz.ntmps28
  go_wp2
  go_ret
  exact ⟨rfl, rfl⟩
end Go.Proofs.YthedmiilkeclaaaGreat
namespace Go.Proofs.YthedmiilkeclaaaGreat
open Go.RowKit Go.Shelf
open Go.Proofs.YthedmiilkeclaaaGreat.I34
attribute [local go_sem] Oper.semAt_some
set_option maxRecDepth 100000

theorem abides_step {β : Type} {B : Nat} {J : β → World → Prop} (h : AbidesFrom B J) {s : β} {W W' : World} (hs : J s W) (_ : B ≤ W.heap.size) (hb : Below W.heap.size W W') : J s W' :=
  h s W W' none hs (grownN_of_below hb (Nat.le_refl _)) (fun r e => by cases e)
theorem own_form {w : World} {B : Nat} {e : TypeId} {size n : Nat} {v : Value} {xs : List Value} (h : w.ownsRow B e size v n xs) : ∃ a c, v = .slice a n c := by
  rcases h.2 with ⟨rfl, rfl⟩ | ⟨g, cap, cur, rfl, _⟩
  · exact ⟨none, 0, rfl⟩
  · exact ⟨_, _, rfl⟩
theorem own_pos {w : World} {B : Nat} {e : TypeId} {size n c : Nat} {a : Option Addr} {xs : List Value} (h : w.ownsRow B e size (.slice a n c) n xs) (hn : 0 < n) : ∃ g, a = some ⟨g, 0, none⟩ ∧ B ≤ g ∧ g < w.heap.size ∧ ∀ j, j < n * size → w.cell? ⟨g, j, none⟩ = xs[j]? := by
  rcases h.2 with ⟨hv, rfl⟩ | ⟨g, cap, cur, hv, hg, hh, r⟩
  · omega
  · cases hv
    exact ⟨g, rfl, hg, (Array.getElem?_eq_some_iff.1 hh).1, fun j hj => h.cellAt j hj⟩
theorem pairCells_at : ∀ {l : List (Nat × Nat)} {j : Nat} {f : Nat × Nat}, l[j]? = some f → (pairCells l)[j * 2]? = some (.int .i64 (f.1 : Int)) ∧ (pairCells l)[j * 2 + 1]? = some (.int .i64 (f.2 : Int))
  | [], _, _, h => by simp at h
  | g :: l, 0, f, h => by simp at h; subst h; simp [pairCells]
  | g :: l, j + 1, f, h => by
    have h' : l[j]? = some f := by simpa using h
    have ih := pairCells_at h'
    have e : pairCells (g :: l) = .int .i64 (g.1 : Int) :: .int .i64 (g.2 : Int) :: pairCells l := rfl
    rw [e, show (j + 1) * 2 = j * 2 + 2 by omega, show j * 2 + 2 + 1 = (j * 2 + 1) + 2 by omega]
    exact ih

set_option maxHeartbeats 4000000 in
theorem lengths_stops (n : Nat) (hn : 1 ≤ n) (Bs n₀ B0 : Nat) (A : Option Addr) (c : Nat) (p : List (List Int)) (hp : chk p = 0) (w : World) (hBs : Bs < w.heap.size) (hB0 : B0 < w.heap.size) (hn0 : n₀ ≤ B0)
    (hc : w.cell? ⟨Bs, 0, none⟩ = some (.slice A p.length c)) (hs : SlRows w n₀ A p) :
    SeqStopsK Fence.wide n Tryz.prog 47 #[.pointer (some ⟨Bs, 0, none⟩)] encF (KC B0) (fun xs => xs = toF (lens p)) (fun _ => True) (lens p).length w := by
  intro l J Jx W hW hJ hJx hY h0
  have hcW := (hW.cell (p := ⟨Bs, 0, none⟩) hBs).trans hc
  have hsW : SlRows W n₀ A p := hs.below (hW.mono (by omega))
  have hzW : B0 < W.heap.size := by have := hW.size; omega
  have hpl := (chk_zero hp).1
  have hpr := Lib.hid (chk_zero hp).2
  clear hc hs hW hBs hB0
  have HY := Lib.hid hY
  have HJ := Lib.hid hJ
  clear hY hJ hJx hp
  refine callsIn_of_wp Tryz.func47 rfl trivial ?_ rfl
  simp only [Tryz.ntmps47, List.size_toArray, List.length_cons, List.length_nil, Nat.reduceAdd, Nat.reduceSub, Array.replicate_succ, Array.replicate_zero, List.push_toArray, List.append_toArray, List.nil_append, List.cons_append]
  gi_wp2
  gi_loopw [10] (fun i wr => ∃ k : Nat, k ≤ p.length ∧ i = .int .i64 k ∧ J (toF (came p k 0 0)) wr ∧ SlRows wr n₀ A p ∧ W.heap.size ≤ wr.heap.size) (fun i _ => p.length - (intOf i).toNat)
  case atStart => exact ⟨0, Nat.zero_le _, rfl, by rw [came_zero]; exact h0, hsW, Nat.le_refl _⟩
  case round =>
    obtain ⟨k, hk, rfl, hJs, hsr, hzr⟩ := hrel
    by_cases hlt : k < p.length
    · obtain ⟨b, off, row, A', C', rfl, hB, hr, hcr, hsi⟩ := hsr.at_ hlt
      have HR := Lib.hid hr
      have hrl := (hpr.out row (List.mem_of_getElem? hr)).2
      have hJ2 := Lib.hid hJs
      have hs2 := Lib.hid hsr
      clear hr hJs hsr hcW h0 hsW
      gi_wp2
      gi_loopw [14] (fun i wr => ∃ c : Nat, c ≤ 6 ∧ i = .int .i64 c ∧ J (toF (came p k c 0)) wr ∧ SlRows wr n₀ (some ⟨b, off, none⟩) p ∧ W.heap.size ≤ wr.heap.size ∧ SlI wr n₀ A' row) (fun i _ => 6 - (intOf i).toNat)
      case atStart => exact ⟨0, by omega, rfl, hJ2.out, hs2.out, hzr, hsi⟩
      case round =>
        obtain ⟨c1, hc1, rfl, hJs, hsr, hzr, hsi⟩ := hrel
        have hgd : p.getD k [] = row := by rw [List.getD, HR.out]; rfl
        have HG := Lib.hid hgd
        clear hgd
        by_cases hlt1 : c1 < 6
        · have hJ3 := Lib.hid hJs
          have hs3 := Lib.hid hsr
          have hsi3 := Lib.hid hsi
          clear hJs hsr hcr hJ2 hs2
          gi_wp2_with fail
          refine ⟨trivial, (wide_calls (floats_any A' C' row ((c1 : Int) + 1) _ (hsi3.out.more (by omega)) (by omega))).mono ?_⟩
          rintro e w1 ⟨v, rfl, hown, hb1⟩
          have hJ4 := Lib.hid (abides_step HJ.out hJ3.out hzr hb1)
          have hs4 := Lib.hid (hs3.out.below (hb1.mono (by omega)))
          have hsi4 := Lib.hid (hsi3.out.below (hb1.mono (by omega)))
          have hz4 := hb1.size
          have hgB : B0 < wr.heap.size := by omega
          clear hJ3 hs3 hsi3 hb1
          obtain ⟨fl, hfl⟩ : ∃ fl, flo row ((c1 : Int) + 1) = fl := ⟨_, rfl⟩
          have hfr := flo_row row ((c1 : Int) + 1)
          rw [hfl] at hown hfr
          obtain ⟨av, cv, rfl⟩ := own_form hown
          have HFL := Lib.hid hfl
          have HFR := Lib.hid hfr
          clear hfl hfr
          have hfll : fl.length ≤ 1000 := by
            have := floTo_len row ((c1 : Int) + 1) row.length
            have e : (floTo row ((c1 : Int) + 1) row.length).1 = fl := HFL.out
            rw [e] at this; omega
          gi_wp2
          gi_loopw [22] (fun i wr2 => ∃ j : Nat, j ≤ fl.length ∧ i = .int .i64 j ∧ J (toF (came p k c1 j)) wr2 ∧ SlRows wr2 n₀ (some ⟨b, off, none⟩) p ∧ W.heap.size ≤ wr2.heap.size ∧ SlI wr2 n₀ A' row ∧
              wr2.ownsRow (B0 + 1) 75 2 (.slice av fl.length cv) fl.length (pairCells fl)) (fun i _ => fl.length - (intOf i).toNat)
          case atStart => exact ⟨0, by omega, rfl, hJ4.out, hs4.out, by omega, hsi4.out, own_base hown (by omega)⟩
          case round =>
            obtain ⟨j, hj, rfl, hJs, hsr, hzr2, hsi, hown⟩ := hrel
            by_cases hlt2 : j < fl.length
            · obtain ⟨g, rfl, hgB2, hgl, hcells⟩ := own_pos hown (by omega)
              have hf : fl[j]? = some fl[j] := List.getElem?_eq_getElem hlt2
              generalize fl[j] = f at hf
              obtain ⟨hx, hy⟩ := pairCells_at hf
              have hcx : wr.cell? ⟨g, j * 2, none⟩ = some (.int .i64 (f.1 : Int)) := (hcells _ (by omega)).trans hx
              have hcy : wr.cell? ⟨g, j * 2 + 1, none⟩ = some (.int .i64 (f.2 : Int)) := (hcells _ (by omega)).trans hy
              have hbd := Row.bounds HFR.out hf
              have hf2 : (flo (p.getD k []) ((c1 : Int) + 1))[j]? = some f := by rw [HG.out, HFL.out]; exact hf
              have hcm := came_float hf2
              have hlt3 := came_lt hlt hlt1 hf2
              clear hx hy hcells hf hf2
              have hJ5 := abides_step HJ.out hJs hzr2 ((Below.refl _ wr).alloc (Nat.le_refl _) (.cells #[.int .i64 (f.1 : Int), .int .i64 (f.2 : Int)] 75))
              obtain ⟨fn, tmps, assign, body, hy, hR⟩ := HY.out _ (⟨lenOf f % 101, Nat.mod_lt _ (by omega)⟩ : F101) _ hJ5 (by rw [toF_length]; exact hlt3)
              have hlen : lenOf f % 101 = lenOf f := Nat.mod_eq_of_lt (by unfold lenOf; omega)
              have henc : encF (⟨lenOf f % 101, Nat.mod_lt _ (by omega)⟩ : F101) = #[.int .i64 ((f.2 : Int) - (f.1 : Int) - 1)] := by
                unfold encF
                simp only [hlen]
                congr 3
                unfold lenOf; omega
              rw [henc] at hy
              rw [← toF_snoc, ← hcm] at hR
              have HCM := Lib.hid hcm
              have hs5 := Lib.hid hsr
              have hsi5 := Lib.hid hsi
              have ho5 := Lib.hid hown
              clear hcm hlen henc hJ5 hJs hsr hsi hown
              gi_wp2
              refine hR.mono ?_
              rintro e W3 (⟨rfl, hJ3, hk3⟩ | ⟨rfl, hJx3⟩)
              · have hs6 := Lib.hid (hk3.rows hn0 (hs5.out.below (((Below.refl n₀ wr).alloc (by omega) _))))
                have hsi6 := Lib.hid (hk3.sl hn0 (hsi5.out.below (((Below.refl n₀ wr).alloc (by omega) _))))
                have ho6 := Lib.hid (hk3.own (by simp [Value.ownBlock]; omega) (ho5.out.alloc (.cells #[.int .i64 (f.1 : Int), .int .i64 (f.2 : Int)] 75)))
                have hz6 := hk3.1
                rw [World.size_alloc] at hz6
                have HJ3 := Lib.hid hJ3
                clear hk3 hs5 hsi5 ho5 hJ3
                gi_wp2
                go_roundw
                case rel => exact ⟨j + 1, by omega, by go_num, HJ3.out, hs6.out, by omega, hsi6.out, ho6.out⟩
                case measure => simp [intOf]; omega
              · gi_wp2
                refine bodyPost_ret (results_none rfl _ _ _) rfl ?_
                exact ⟨⟨_, rfl⟩, .inr ⟨_, trivial, hJx3⟩⟩
            · obtain rfl : j = fl.length := by omega
              have HJ3 := Lib.hid hJs
              have hs6 := Lib.hid hsr
              have hsi6 := Lib.hid hsi
              clear hJs hsr hsi hown
              gi_wp2
              go_roundw
              case rel =>
                refine ⟨c1 + 1, by omega, by go_num, ?_, hs6.out, hzr2, hsi6.out⟩
                rw [came_colour (j := fl.length) (by unfold rowLens; rw [HG.out, List.length_map, HFL.out]; exact Nat.le_refl _)]
                exact HJ3.out
              case measure => simp [intOf]; omega
        · obtain rfl : c1 = 6 := by omega
          have HJ3 := Lib.hid hJs
          have hs6 := Lib.hid hsr
          clear hJs hsr hsi
          gi_wp2
          go_roundw
          case rel => exact ⟨k + 1, by omega, by go_num, by rw [came_row hlt]; exact HJ3.out, hs6.out, by omega⟩
          case measure => simp [intOf]; omega
    · obtain rfl : k = p.length := by omega
      have HJ3 := Lib.hid hJs
      clear hJs hsr
      gi_wp2
      go_end0
      exact ⟨⟨_, rfl⟩, .inl ⟨_, rfl, by rw [← came_all (p := p) (Nat.le_refl _)]; exact HJ3.out⟩⟩
end Go.Proofs.YthedmiilkeclaaaGreat
