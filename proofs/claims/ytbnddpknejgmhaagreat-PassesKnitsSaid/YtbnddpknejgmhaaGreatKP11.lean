/- Layer 30: find, take. Layer 30: copied. -/
import Derived.Test.YtbnddpknejgmhaaGreatKP8
import Derived.Test.YtbnddpknejgmhaaGreatKP10
import Derived.Deep.RegionHeld3
namespace Go.Proofs.YtbnddpknejgmhaaGreat
open Go.RowKit Go.Shelf
set_option maxRecDepth 100000

/-- What lets a needle be sought. -/
structure Seek (l : List Hk) : Prop where
  len : l.length ≤ 9000
  near : ∀ h ∈ l, h.near
  ris : risB ltH l = true
theorem mono_cmp {l : List Hk} (h : risB ltH l = true) (b n : Int) : ∀ i j, i ≤ j → j < l.length → cmpH l ⟨b, n, []⟩ j < 0 → cmpH l ⟨b, n, []⟩ i < 0 := fun i j hij hj hc => by
  rcases Nat.lt_or_eq_of_le hij with e | e
  · have hm := monoH h b n
    unfold cmpH at hc ⊢
    rw [getD_at (List.getElem?_eq_getElem hj)] at hc
    rw [getD_at (List.getElem?_eq_getElem (show i < l.length by omega))]
    exact hm.at_ (List.getElem?_eq_getElem (show i < l.length by omega)) (List.getElem?_eq_getElem hj) e (by unfold keyH; omega)
  · subst e; exact hc
set_option maxHeartbeats 1000000 in
theorem find_any (pb : Nat) (A : Option Addr) (c : Nat) (l : List Hk) (hk : Seek l) (b n : Int) (hb : 0 ≤ b ∧ b ≤ 1) (hn : needleP n) (w : World) (hp : w.cell? ⟨pb, 1, none⟩ = some (.slice A l.length c)) (hs : SlHk w w.heap.size A l) :
    Calls Tryz.prog 68 #[.pointer (some ⟨pb, 0, none⟩), .int .u8 b, .int .i64 n] w fun e w' => ∃ (i : Nat) (q : Bool), e = .returned (.tuple #[.int .i64 (i : Int), .bool q]) ∧ Found (fun j => keyH b n (l.getD j defH)) l.length i q ∧ Below w.heap.size w w' := by
  unfold needleP at hn
  have HB := Lib.hid (bsH_any A c l (by have := hk.len; omega) hk.near ⟨b, n, []⟩ ⟨hb.1, hb.2, hn.1, hn.2⟩ (.slice none 0 0) (mono_cmp hk.ris b n) w hs)
  clear hs hk hn hb
  go_enter Tryz.func68, Tryz.ntmps68
  go_wp2_with (go_at_call 97; refine HB.out.mono ?_; rintro e w1 ⟨i, q, rfl, hf, hb1⟩; have HF := Lib.hid hf; have HB1 := Lib.hid hb1; clear hf hb1)
  go_ret2
  exact ⟨i, q, rfl, HF.out, HB1.out⟩
theorem hook_drop {hv : List (Hk × Value)} {i : Nat} : (hv.map hookCells).flatten.take (i * 3) ++ (hv.map hookCells).flatten.drop ((i + 1) * 3) = ((hv.eraseIdx i).map hookCells).flatten := by
  have ht : ∀ k (L : List (Hk × Value)), (L.map hookCells).flatten.take (k * 3) = ((L.take k).map hookCells).flatten := by
    intro k
    induction k with
    | zero => intro L; simp
    | succ k ih =>
      intro L
      cases L with
      | nil => simp
      | cons a L =>
        simp only [List.map_cons, List.flatten_cons, List.take_succ_cons]
        rw [show (k + 1) * 3 = (hookCells a).length + k * 3 by simp [hookCells]; omega, List.take_length_add_append, ih]
  have hd : ∀ k (L : List (Hk × Value)), (L.map hookCells).flatten.drop (k * 3) = ((L.drop k).map hookCells).flatten := by
    intro k
    induction k with
    | zero => intro L; simp
    | succ k ih =>
      intro L
      cases L with
      | nil => simp
      | cons a L =>
        simp only [List.map_cons, List.flatten_cons, List.drop_succ_cons]
        rw [show (k + 1) * 3 = (hookCells a).length + k * 3 by simp [hookCells]; omega, List.drop_length_add_append, ih]
  rw [ht, hd, List.eraseIdx_eq_take_drop_succ, List.map_append, List.flatten_append]
theorem map_erase {α β : Type} (f : α → β) (l : List α) (i : Nat) : (l.eraseIdx i).map f = (l.map f).eraseIdx i := by
  rw [List.eraseIdx_eq_take_drop_succ, List.eraseIdx_eq_take_drop_succ, List.map_append, List.map_take, List.map_drop]
theorem own_one {w : World} {B : Nat} {v : Value} {l : List Int} (h : (rowI v l).lies w B) : v.oneCell' = true := by
  obtain ⟨A, c, rfl, _⟩ := rowI_form h
  rfl
/-- What take hands back. -/
def takeOut (T : TypeId) (B pb : Nat) (s : BedS) (b n : Int) (X : List Own) (w : World) (e : Ending) (w' : World) : Prop :=
  ∃ v, e = .returned v ∧ WorkX T w' B pb (takeS s b n) (rowI v (heldAt s.hooks b n) :: X) ∧ Below B w w'
set_option maxHeartbeats 2000000 in
theorem take_any (B pb : Nat) (s : BedS) (X : List Own) (hk : Seek s.hooks) (b n : Int) (hb : 0 ≤ b ∧ b ≤ 1) (hn : needleP n) (w : World) (hBw : B ≤ w.heap.size) (hw : WorkX 84 w B pb s X) :
    Calls Tryz.prog 40 #[.pointer (some ⟨pb, 0, none⟩), .int .u8 b, .int .i64 n] w fun e w' => takeOut 84 B pb s b n X w e w' := by
  obtain ⟨hv, mv, vh, vf, vm, hw⟩ := hw
  obtain ⟨A, c, rfl, hlc, hsl⟩ := hw.slh
  have hcs := hw.cells
  have HFi := Lib.hid (find_any pb A c s.hooks hk b n hb hn w hcs.2.1 hsl)
  have HK := Lib.hid hk
  have HW := Lib.hid hw
  clear hsl hk hw hcs
  go_enter Tryz.func40, Tryz.ntmps40
  go_wp2_with fail
  refine HFi.out.mono ?_
  rintro e w1 ⟨i, q, rfl, hf, hb1⟩
  have hsp := found_split (monoH HK.out.ris b n) hf
  have hw1 := HW.out.to hb1
  cases q with
  | false =>
    have h2 := hsp.2.2 rfl
    have es : takeS s b n = s := by
      unfold takeS putAt setF
      rw [if_pos rfl, List.nil_append, hsp.1, h2.1, List.take_append_drop]
    have HO : Hid (takeOut 84 B pb s b n X w (.returned (.slice none 0 0)) w1) := by
      refine ⟨_, rfl, ?_, hb1.mono hBw⟩
      rw [es, held_none h2.2]
      exact WorkX.addNil ⟨hv, mv, _, vf, vm, hw1⟩
    clear hsp h2 es hw1 hf hb1
    go_wp2
    go_ret
    exact HO.out
  | true =>
    obtain ⟨⟨h, hi, hz⟩, h2⟩ := hsp.2.1 rfl
    have hil : i < s.hooks.length := (List.getElem?_eq_some_iff.1 hi).1
    have hvl := hw1.hlen
    have hpi : hv[i]? = some (hv[i]'(by omega)) := List.getElem?_eq_getElem (by omega)
    generalize hv[i]'(by omega) = p at hpi
    have hp1 : p.1 = h := by
      have := hw1.hooks
      rw [← this, List.getElem?_map, hpi] at hi
      simpa using hi
    have hheld : heldAt s.hooks b n = p.1.loops := by rw [hp1]; exact held_of (monoH HK.out.ris b n) hi hz
    have hcell : w1.cell? ⟨pb, 1, none⟩ = some (.slice A s.hooks.length c) := hw1.cells.2.1
    have hfz := hw1.cells.2.2.2.2 1
    obtain ⟨g, rfl⟩ : ∃ g, A = some ⟨g, 0, none⟩ := by
      obtain ⟨g, cap, e, _⟩ := World.ownsRow.form hw1.rh (by show 0 < hv.length; omega)
      exact ⟨g, (Value.slice.inj e).1⟩
    have hrh : w1.ownsRow B 87 3 (.slice (some ⟨g, 0, none⟩) s.hooks.length c) s.hooks.length (hv.map hookCells).flatten := by rw [← hvl]; have := hw1.rh; unfold rowH Own.lies at this; rw [hvl] at this ⊢; exact this
    have hc2 : w1.cell? ⟨g, i * 3 + 2, none⟩ = some p.2 := by
      rw [hrh.cellAt (i * 3 + 2) (by omega)]
      exact flat_at cells3h (by rw [List.getElem?_map, hpi]; rfl) (show (hookCells p)[2]? = some p.2 from rfl)
    have HD : Hid (∀ z : Int, z = (i : Int) + 1 → Calls Tryz.prog 69 #[.slice (some ⟨g, 0, none⟩) s.hooks.length c, .int .i64 i, .int .i64 z] w1 fun e w' =>
      e = .returned (.slice (some ⟨g, 0, none⟩) (s.hooks.length - 1) c) ∧ w'.ownsRow B 87 3 (.slice (some ⟨g, 0, none⟩) (s.hooks.length - 1) c) (s.hooks.length - 1) ((hv.eraseIdx i).map hookCells).flatten ∧ w1.grownBy w' (some g)) := by
      rintro z rfl
      have := deleteH_any B g s.hooks.length c i (hv.map hookCells).flatten (one3h fun q hq => own_one (hw1.rl hq)) (by have := HK.out.len; omega) w1 hrh hil (i + 1) rfl
      rw [hook_drop] at this
      exact this
    have hi9 : i < 9000 := by have := HK.out.len; omega
    have HW1 := Lib.hid hw1
    have HB1 := Lib.hid (hb1.mono hBw)
    have hE : Hid (takeS s b n = { s with hooks := (hv.eraseIdx i).map Prod.fst }) := by
      unfold Hid takeS putAt setF
      rw [if_pos rfl, List.nil_append, hsp.1, h2, map_erase, hw1.hooks, List.eraseIdx_eq_take_drop_succ]
    have HH := Lib.hid hheld
    have HP := Lib.hid hpi
    clear hsp hi hz h2 hvl hp1 hheld hrh hw1 hb1 hf hpi
    go_wp2_with fail
    refine (HD.out _ rfl).mono ?_
    rintro e w2 ⟨rfl, ho, hg⟩
    obtain ⟨-, d1, -, -, d4⟩ := HW1.out.struct hg HW1.out.pbH
    have d4' := d4 1
    have HO : Hid (takeOut 84 B pb s b n X w (.returned p.2) (w2.setCell ⟨pb, 1, none⟩ (.slice (some ⟨g, 0, none⟩) (s.hooks.length - 1) c))) := by
      have hlen : (hv.eraseIdx i).length = s.hooks.length - 1 := by rw [List.length_eraseIdx, if_pos (by rw [HW1.out.hlen]; exact hil), HW1.out.hlen]
      refine ⟨_, rfl, ?_, (HB1.out.trans (Below.of_grown hg (by have := HB1.out.size; omega) (fun k hk => (World.ownsRow.lt HW1.out.rh k hk).1))).setCell (by exact HW1.out.base.1) _⟩
      rw [hE.out, HH.out]
      refine ⟨hv.eraseIdx i, mv, _, vf, vm, HW1.out.setHooks hg ?_ (fun k hk => Or.inl hk) rfl ?_⟩
      · unfold rowH Own.lies; rw [hlen]; exact ho
      · have hlt : i < hv.length := (List.getElem?_eq_some_iff.1 HP.out).1
        have this : hv.Perm (p :: hv.eraseIdx i) := by
          have e : hv = hv.take i ++ p :: hv.drop (i + 1) := by
            rw [← (List.getElem?_eq_some_iff.1 HP.out).2, ← List.drop_eq_getElem_cons hlt, List.take_append_drop]
          rw [List.eraseIdx_eq_take_drop_succ]
          conv => lhs; rw [e]
          exact List.perm_middle
        exact ((this.map rowL).append_right X).trans (List.perm_middle (l₁ := (hv.eraseIdx i).map rowL) (l₂ := X) (a := rowL p)).symm
    clear ho hg d4 HD HFi
    go_wp2
    go_ret
    exact HO.out
end Go.Proofs.YtbnddpknejgmhaaGreat
namespace Go.Proofs.YtbnddpknejgmhaaGreat
open Go.RowKit Go.Shelf
set_option maxRecDepth 100000

/-- A copy under way: the first needles, the first loops have lists of their own. -/
structure CopyAt (w0 w : World) (pb : Nat) (s : BedS) (hA hB : List (Hk × Value)) (mA mB : List (Mk × Value)) (vh vf vm : Value) : Prop where
  hooks : (hA ++ hB).map Prod.fst = s.hooks
  made : (mA ++ mB).map Prod.fst = s.made
  oldH : ∀ p ∈ hB, OldI w0 w0.heap.size p.2 p.1.loops
  oldM : ∀ p ∈ mB, OldI w0 w0.heap.size p.2 p.1.parents
  owns : Owns w w0.heap.size (rowP 84 pb s.rack vh vf vm :: rowH vh (hA ++ hB) :: rowF vf s.feeds :: rowM vm (mA ++ mB) :: (hA.map rowL ++ mA.map rowQ))
  below : Below w0.heap.size w0 w
section
variable {w0 w : World} {pb : Nat} {s : BedS} {hA hB : List (Hk × Value)} {mA mB : List (Mk × Value)} {vh vf vm : Value}
theorem CopyAt.to (h : CopyAt w0 w pb s hA hB mA mB vh vf vm) {w' : World} (hb : Below w.heap.size w w') : CopyAt w0 w' pb s hA hB mA mB vh vf vm :=
  ⟨h.hooks, h.made, h.oldH, h.oldM, h.owns.to hb, h.below.trans (hb.mono h.below.size)⟩
theorem CopyAt.cells (h : CopyAt w0 w pb s hA hB mA mB vh vf vm) : w.cell? ⟨pb, 1, none⟩ = some vh ∧ w.cell? ⟨pb, 3, none⟩ = some vm ∧ pb < w.heap.size := by
  have this : w.ownsRow w0.heap.size 84 4 (.slice (some ⟨pb, 0, none⟩) 1 1) 1 [.int .i64 s.rack, vh, vf, vm] := h.owns.head
  exact ⟨this.cellAt 1 (by decide), this.cellAt 3 (by decide), (World.ownsRow.lt this pb rfl).2⟩
theorem CopyAt.rh (h : CopyAt w0 w pb s hA hB mA mB vh vf vm) : (rowH vh (hA ++ hB)).lies w w0.heap.size := h.owns.all _ (by simp)
theorem CopyAt.rm (h : CopyAt w0 w pb s hA hB mA mB vh vf vm) : (rowM vm (mA ++ mB)).lies w w0.heap.size := h.owns.all _ (by simp)
theorem CopyAt.hlen (h : CopyAt w0 w pb s hA hB mA mB vh vf vm) : hA.length + hB.length = s.hooks.length := by rw [← h.hooks, List.length_map, List.length_append]
theorem CopyAt.mlen (h : CopyAt w0 w pb s hA hB mA mB vh vf vm) : mA.length + mB.length = s.made.length := by rw [← h.made, List.length_map, List.length_append]
theorem set_flat {sz k : Nat} : ∀ {zs : List (List Value)}, (∀ cs ∈ zs, cs.length = sz) → ∀ (j : Nat) (v : Value) (cs : List Value), zs[j]? = some cs → k < sz → zs.flatten.set (j * sz + k) v = (zs.set j (cs.set k v)).flatten
  | [], _, j, v, cs, h, _ => by simp at h
  | c :: zs, hl, 0, v, cs, h, hk => by
    simp at h; subst h
    have hc := hl c List.mem_cons_self
    rw [List.flatten_cons, Nat.zero_mul, Nat.zero_add, List.set_append_left _ _ (by omega), List.set_cons_zero, List.flatten_cons]
  | c :: zs, hl, j + 1, v, cs, h, hk => by
    have hc := hl c List.mem_cons_self
    have ih := set_flat (k := k) (fun x hx => hl x (List.mem_cons_of_mem _ hx)) j v cs (by simpa using h) hk
    rw [List.flatten_cons, List.set_append_right _ _ (by rw [hc, Nat.add_mul]; omega), hc, show (j + 1) * sz + k - sz = j * sz + k by rw [Nat.add_mul]; omega, ih, List.set_cons_succ, List.flatten_cons]
theorem set_at {α : Type} {a : List α} {x y : α} {b : List α} : (a ++ x :: b).set a.length y = a ++ y :: b := by
  rw [List.set_append_right _ _ (Nat.le_refl _), Nat.sub_self, List.set_cons_zero]
theorem CopyAt.stepH {p : Hk × Value} (h : CopyAt w0 w pb s hA (p :: hB) mA mB vh vf vm) {w1 : World} {v : Value} {g n c : Nat} (hrow : (rowI v p.1.loops).lies w1 w.heap.size) (hb : Below w.heap.size w w1) (hv : vh = .slice (some ⟨g, 0, none⟩) n c) :
    CopyAt w0 (w1.setCell ⟨g, hA.length * 3 + 2, none⟩ v) pb s (hA ++ [(p.1, v)]) hB mA mB vh vf vm := by
  subst hv
  have h1 := h.owns.add (o := rowI v p.1.loops) hb h.below.size hrow
  have hH : w1.ownsRow w0.heap.size 87 3 (.slice (some ⟨g, 0, none⟩) (hA ++ p :: hB).length c) (hA ++ p :: hB).length (((hA ++ p :: hB).map hookCells).flatten) := by
    have := h1.all (rowH (.slice (some ⟨g, 0, none⟩) n c) (hA ++ p :: hB)) (by simp)
    obtain ⟨A', c', e, _⟩ := own_slice this
    have e' : (Value.slice (some ⟨g, 0, none⟩) n c) = .slice A' (hA ++ p :: hB).length c' := e
    cases e'
    exact this
  obtain ⟨s1, s2⟩ := World.ownsRow.stored hH (hA.length * 3 + 2) v
  have e1 : (((hA ++ p :: hB).map hookCells).flatten).set (hA.length * 3 + 2) v = ((hA ++ [(p.1, v)] ++ hB).map hookCells).flatten := by
    rw [set_flat (sz := 3) cells3h hA.length v (hookCells p) (by rw [List.getElem?_map, List.getElem?_append_right (Nat.le_refl _), Nat.sub_self]; rfl) (by omega)]
    have e2 : ((hA ++ p :: hB).map hookCells).set hA.length ((hookCells p).set 2 v) = (hA ++ [(p.1, v)] ++ hB).map hookCells := by
      have e3 : (hookCells p).set 2 v = hookCells (p.1, v) := rfl
      rw [e3, ← List.map_set, set_at]; simp
    rw [e2]
  have hn : n = (hA ++ p :: hB).length := by
    have := h1.all (rowH (.slice (some ⟨g, 0, none⟩) n c) (hA ++ p :: hB)) (by simp)
    obtain ⟨A', c', e, _⟩ := own_slice this
    have e' : (Value.slice (some ⟨g, 0, none⟩) n c) = .slice A' (hA ++ p :: hB).length c' := e
    cases e'
    rfl
  refine ⟨by rw [← h.hooks]; simp, h.made, fun q hq => h.oldH q (List.mem_cons_of_mem _ hq), h.oldM, ?_, (h.below.trans (hb.mono h.below.size)).setCell (World.ownsRow.lt hH g rfl).1 _⟩
  have p1 : ∀ {O P H : Own} {R : List Own}, (O :: P :: H :: R).Perm (H :: O :: P :: R) := fun {O P H R} => (List.Perm.cons O (List.Perm.swap H P R)).trans (List.Perm.swap H O (P :: R))
  have h2 := (h1.perm p1).turn (o' := rowH (.slice (some ⟨g, 0, none⟩) n c) (hA ++ [(p.1, v)] ++ hB)) (w' := w1.setCell ⟨g, hA.length * 3 + 2, none⟩ v) s2 (by
    unfold rowH Own.lies
    have e4 : (hA ++ [(p.1, v)] ++ hB).length = (hA ++ p :: hB).length := by simp
    rw [e4, ← e1, hn]
    exact s1) (fun k hk => Or.inl hk)
  refine (h2.perm p1.symm).perm ?_
  have := (List.perm_middle (l₁ := rowP 84 pb s.rack (.slice (some ⟨g, 0, none⟩) n c) vf vm :: rowH (.slice (some ⟨g, 0, none⟩) n c) (hA ++ [(p.1, v)] ++ hB) :: rowF vf s.feeds :: rowM vm (mA ++ mB) :: hA.map rowL) (l₂ := mA.map rowQ) (a := rowI v p.1.loops)).symm
  refine this.trans ?_
  have e5 : (hA ++ [(p.1, v)]).map rowL = hA.map rowL ++ [rowI v p.1.loops] := by rw [List.map_append]; rfl
  rw [e5]
  simp only [List.cons_append, List.append_assoc, List.nil_append]
  exact List.Perm.refl _
theorem CopyAt.stepM {p : Mk × Value} (h : CopyAt w0 w pb s hA hB mA (p :: mB) vh vf vm) {w1 : World} {v : Value} {g n c : Nat} (hrow : (rowI v p.1.parents).lies w1 w.heap.size) (hb : Below w.heap.size w w1) (hv : vm = .slice (some ⟨g, 0, none⟩) n c) :
    CopyAt w0 (w1.setCell ⟨g, mA.length * 4, none⟩ v) pb s hA hB (mA ++ [(p.1, v)]) mB vh vf vm := by
  subst hv
  have h1 := h.owns.add (o := rowI v p.1.parents) hb h.below.size hrow
  have hsl := h1.all (rowM (.slice (some ⟨g, 0, none⟩) n c) (mA ++ p :: mB)) (by simp)
  have hn : n = (mA ++ p :: mB).length := by
    obtain ⟨A', c', e, _⟩ := own_slice hsl
    have e' : (Value.slice (some ⟨g, 0, none⟩) n c) = .slice A' (mA ++ p :: mB).length c' := e
    cases e'
    rfl
  have hH : w1.ownsRow w0.heap.size 57 4 (.slice (some ⟨g, 0, none⟩) (mA ++ p :: mB).length c) (mA ++ p :: mB).length (((mA ++ p :: mB).map makeCells).flatten) := by
    rw [hn] at hsl; exact hsl
  obtain ⟨s1, s2⟩ := World.ownsRow.stored hH (mA.length * 4) v
  have e1 : (((mA ++ p :: mB).map makeCells).flatten).set (mA.length * 4) v = ((mA ++ [(p.1, v)] ++ mB).map makeCells).flatten := by
    have := set_flat (sz := 4) (k := 0) cells4m mA.length v (makeCells p) (zs := (mA ++ p :: mB).map makeCells) (by rw [List.getElem?_map, List.getElem?_append_right (Nat.le_refl _), Nat.sub_self]; rfl) (by omega)
    rw [Nat.add_zero] at this
    rw [this]
    have e2 : ((mA ++ p :: mB).map makeCells).set mA.length ((makeCells p).set 0 v) = (mA ++ [(p.1, v)] ++ mB).map makeCells := by
      have e3 : (makeCells p).set 0 v = makeCells (p.1, v) := rfl
      rw [e3, ← List.map_set, set_at]; simp
    rw [e2]
  refine ⟨h.hooks, by rw [← h.made]; simp, h.oldH, fun q hq => h.oldM q (List.mem_cons_of_mem _ hq), ?_, (h.below.trans (hb.mono h.below.size)).setCell (World.ownsRow.lt hH g rfl).1 _⟩
  have p1 : ∀ {O P H F M : Own} {R : List Own}, (O :: P :: H :: F :: M :: R).Perm (M :: O :: P :: H :: F :: R) := fun {O P H F M R} => by
    have := (List.perm_middle (l₁ := [O, P, H, F]) (l₂ := R) (a := M))
    simpa using this
  have h2 := (h1.perm p1).turn (o' := rowM (.slice (some ⟨g, 0, none⟩) n c) (mA ++ [(p.1, v)] ++ mB)) (w' := w1.setCell ⟨g, mA.length * 4, none⟩ v) s2 (by
    unfold rowM Own.lies
    have e4 : (mA ++ [(p.1, v)] ++ mB).length = (mA ++ p :: mB).length := by simp
    rw [e4, ← e1, hn]
    exact s1) (fun k hk => Or.inl hk)
  refine (h2.perm p1.symm).perm ?_
  have := (List.perm_middle (l₁ := rowP 84 pb s.rack vh vf (.slice (some ⟨g, 0, none⟩) n c) :: rowH vh (hA ++ hB) :: rowF vf s.feeds :: rowM (.slice (some ⟨g, 0, none⟩) n c) (mA ++ [(p.1, v)] ++ mB) :: (hA.map rowL ++ mA.map rowQ)) (l₂ := []) (a := rowI v p.1.parents)).symm
  refine (List.Perm.trans ?_ this).trans ?_
  · simp
  have e5 : (mA ++ [(p.1, v)]).map rowQ = mA.map rowQ ++ [rowI v p.1.parents] := by rw [List.map_append]; rfl
  rw [e5]
  simp only [List.cons_append, List.append_assoc]
  exact List.Perm.refl _
theorem CopyAt.done (h : CopyAt w0 w pb s hA [] mA [] vh vf vm) : WorkX 84 w w0.heap.size pb s [] := by
  have := h.owns
  have h1 := h.hooks
  have h2 := h.made
  rw [List.append_nil] at h1 h2
  rw [List.append_nil, List.append_nil] at this
  exact ⟨hA, mA, vh, vf, vm, h1, h2, by rw [List.append_nil]; exact this⟩
end
end Go.Proofs.YtbnddpknejgmhaaGreat
