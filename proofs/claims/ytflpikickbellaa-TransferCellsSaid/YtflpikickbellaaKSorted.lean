/- slices.Sorted of slices.Values, Compact of it, at ints. -/
import Derived.Test.YtflpikickbellaaKG4
import Derived.Test.YtflpikickbellaaShelf
import Derived.Lib.SlKeysI
import Derived.Sort.OwnSorted
namespace Go.Proofs.Ytflpikickbellaa
open Go.RowKit Go.Shelf Go.Sort Go.Maps
set_option maxRecDepth 100000

def sortZ (l : List Int) : List Int := l.mergeSort fun x y => decide (x ≤ y)
theorem sortZ_len (l : List Int) : (sortZ l).length = l.length := by unfold sortZ; exact List.length_mergeSort l
theorem sortZ_mem {l : List Int} {x : Int} : x ∈ sortZ l ↔ x ∈ l := by unfold sortZ; exact List.mem_mergeSort
/-- A slice that the call owns. -/
def ownI (w : World) (B : Nat) (v : Value) (l : List Int) : Prop := w.ownsRow B 3 1 v l.length (intV l)
theorem ownI.slI {w : World} {B : Nat} {a : Option Addr} {n c : Nat} {l : List Int} (h : ownI w B (.slice a n c) l) : SlI w w.heap.size a l := fun hne => by
  have hp : 0 < l.length := List.length_pos_iff.2 hne
  rcases h.2 with ⟨hv, h0⟩ | ⟨g, cap, cur, hv, hg, hh, r⟩
  · omega
  · cases hv
    refine ⟨g, 0, rfl, (Array.getElem?_eq_some_iff.1 hh).1, fun j z hz => ?_⟩
    have hlt : j < l.length := (List.getElem?_eq_some_iff.1 hz).1
    have := World.ownsRow.cellAt h j (by omega)
    rw [Nat.zero_add, this]
    unfold intV
    rw [List.getElem?_map, hz]; rfl
set_option maxHeartbeats 1000000 in
theorem collect_any (Bs : Nat) (A : Option Addr) (c : Nat) (zs : List Int) (hl : zs.length ≤ 1000000) (w : World) (hBs : Bs < w.heap.size) (hc0 : w.cell? ⟨Bs, 0, none⟩ = some (.slice A zs.length c)) (hs : SlI w w.heap.size A zs) :
    Calls Try.prog 30 #[.func (.func 68) #[] #[.pointer (some ⟨Bs, 0, none⟩)]] w fun e w' => ∃ v, e = .returned v ∧ ownI w' w.heap.size v zs ∧ Below w.heap.size w w' := by
  have HA := Lib.hid (appendSeq_any Bs A c zs hl w hBs hc0 hs)
  clear hs hc0
  go_enter Try.func30, Try.ntmps30
  go_wp2_with (go_at_call 63; refine HA.out.mono ?_; rintro e w1 ⟨v, rfl, hown, hb⟩)
  go_ret
  exact ⟨v, rfl, hown, hb⟩
set_option maxHeartbeats 2000000 in
theorem sorted_any (Bs : Nat) (A : Option Addr) (c : Nat) (zs : List Int) (hl : zs.length ≤ 1000000) (w : World) (hBs : Bs < w.heap.size) (hc0 : w.cell? ⟨Bs, 0, none⟩ = some (.slice A zs.length c)) (hs : SlI w w.heap.size A zs) :
    Calls Try.prog 45 #[.func (.func 68) #[] #[.pointer (some ⟨Bs, 0, none⟩)]] w fun e w' => ∃ v, e = .returned v ∧ ownI w' w.heap.size v (sortZ zs) ∧ Below w.heap.size w w' := by
  have HA := Lib.hid (collect_any Bs A c zs hl w hBs hc0 hs)
  clear hs hc0
  go_enter Try.func45, Try.ntmps45
  go_wp2_with fail
  refine HA.out.mono ?_
  rintro e w1 ⟨v, rfl, hown, hb⟩
  rcases hown.2 with ⟨rfl, hz⟩ | ⟨gb, cap, cur, rfl, hbase, hgb, r1, r2, r3, r4⟩
  · have hzs : zs = [] := List.eq_nil_of_length_eq_zero hz
    subst hzs
    have HB := Lib.hid hb
    have hn : sortZ [] = [] := by simp [sortZ]
    clear hown hb
    go_wp2_with fail
    refine (Try.slices_Sort_int_none none 0 w1).mono ?_
    rintro e w' ⟨rfl, rfl⟩
    go_wp2
    go_ret
    exact ⟨.slice none 0 0, rfl, by rw [hn]; exact World.ownsRow_nil _ _ _ _, HB.out⟩
  · have hH : Holds (Value.int .i64) w1 gb 0 zs.toArray := holds_of_block_i hgb (by simpa [intV] using r4)
    have hgl : gb < w1.heap.size := (Array.getElem?_eq_some_iff.1 hgb).1
    have cS := Try.slices_Sort_int gb 0 cap zs w1 hH hgl (by omega)
    have HB := Lib.hid hb
    have HR := Lib.hid (show _ ∧ _ ∧ _ ∧ _ ∧ _ from ⟨hbase, hgb, r1, r2, r3⟩)
    clear hown hb hH r4 hgb
    go_wp2_with fail
    refine cS.mono ?_
    rintro e w' ⟨rfl, nn, os, rfl⟩
    have ho : (grow (putRow (Value.int .i64) (Sort.ahead w1 nn) gb 0 (sortZ zs).toArray) os).ownsRow w.heap.size 3 1 (.slice (some ⟨gb, 0, none⟩) zs.length cap) zs.length (intV (sortZ zs)) :=
      ownsRow_sorted_i (sortZ_len zs) HR.out.1 HR.out.2.1 HR.out.2.2.1 HR.out.2.2.2.1 HR.out.2.2.2.2
    have hbb : Below w.heap.size w (grow (putRow (Value.int .i64) (Sort.ahead w1 nn) gb 0 (sortZ zs).toArray) os) := HB.out.grown (grownBy_sorted_i _) HB.out.size (fun j hj => by cases hj; exact HR.out.1)
    have HO := Lib.hid (show _ ∧ _ from ⟨ho, hbb⟩)
    clear ho hbb cS HR HB
    obtain ⟨w2, hw2⟩ : ∃ w2, w2 = grow (putRow (Value.int .i64) (Sort.ahead w1 nn) gb 0 (zs.mergeSort fun x y => decide (x ≤ y)).toArray) os := ⟨_, rfl⟩
    have HO2 : Hid (w2.ownsRow w.heap.size 3 1 (.slice (some ⟨gb, 0, none⟩) zs.length cap) zs.length (intV (sortZ zs)) ∧ Below w.heap.size w w2) := by rw [hw2]; exact HO.out
    rw [← hw2]
    clear HO hw2
    go_wp2
    go_ret
    refine ⟨_, rfl, ?_, HO2.out.2⟩
    unfold ownI
    rw [sortZ_len]
    exact HO2.out.1
end Go.Proofs.Ytflpikickbellaa
