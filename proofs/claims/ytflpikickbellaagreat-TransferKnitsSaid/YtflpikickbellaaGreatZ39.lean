/- Layer 27, the program. -/
import Derived.Test.YtflpikickbellaaGreatZ37
import Derived.Test.YtflpikickbellaaGreatZ38
namespace Go.Proofs.YtflpikickbellaaGreat
open Go.RowKit Go.Shelf Go.Sort
set_option maxRecDepth 100000
theorem bxT_two {w : World} {B xb : Nat} {T : TypeId} {u v : Value} : (bxT T xb [u, v]).lies w B ↔ w.ownsRow B T 1 (.slice (some ⟨xb, 0, none⟩) 2 2) 2 [u, v] := by
 unfold bxT Own.lies World.ownsRow
 constructor
 · rintro ⟨-, h⟩
   refine ⟨rfl, .inr ?_⟩
   rcases h with ⟨e, -⟩ | ⟨g, cap, cur, e, h1, h2, h3, h4, h5, h6⟩
   · cases e
   · injection e with e1 e2 e3
     injection e1 with e1
     injection e1 with e1
     subst e1; subst e3
     exact ⟨xb, 2, cur, rfl, h1, h2, Nat.le_refl _, by unfold maxLen; omega, by simpa using h5, by simpa using h6⟩
 · rintro ⟨-, h⟩
   refine ⟨rfl, .inr ?_⟩
   rcases h with ⟨e, -⟩ | ⟨g, cap, cur, e, h1, h2, h3, h4, h5, h6⟩
   · cases e
   · injection e with e1 e2 e3
     injection e1 with e1
     injection e1 with e1
     subst e1; subst e3
     exact ⟨xb, 1, cur, rfl, h1, h2, Nat.le_refl _, by unfold maxLen; omega, by simpa using h5, by simpa using h6⟩
theorem revP_any {w : World} {B xb : Nat} {T : TypeId} {x z : Int} {L : List Own} (h : Owns w B (bxT T xb [.int .i64 x, .int .i64 z] :: L)) (hB : B ≤ w.heap.size) :
 Calls Tryz.prog 126 #[.slice (some ⟨xb, 0, none⟩) 2 2] w fun e w' => e = .returned (.tuple #[]) ∧ Owns w' B (bxT T xb [.int .i64 z, .int .i64 x] :: L) ∧ Below B w w' := by
 have h0 := bxT_two.1 h.head
 have hH : Holds (Value.int .i64) w xb 0 ([x, z] : List Int).toArray := fun j hj => by
  have hj' : j < 2 := by simpa using hj
  rw [Nat.zero_add]
  refine ⟨?_, h0.frozenAt j⟩
  rw [h0.cellAt j (by omega)]
  match j with
  | 0 => rfl
  | 1 => rfl
  | j + 2 => omega
 refine (Tryz.slices_Reverse_int xb 0 2 [x, z] w hH (by simp)).mono ?_
 rintro e w' ⟨rfl, q, rfl⟩
 obtain ⟨g1, -⟩ := World.ownsRow.lt h0 xb rfl
 have h1 := Lib.ownsRow_putRow (enc := Value.int .i64) (zs := [x, z]) (ys := [z, x]) (q := q) h0 rfl (Nat.le_refl _)
 refine ⟨rfl, h.turn (o' := bxT T xb [.int .i64 z, .int .i64 x]) (grown_rowJ _) (bxT_two.2 h1) (fun k hk => Or.inl hk), Below.of_grown (grown_rowJ _) hB (fun k e => by cases e; exact g1)⟩
theorem QcE.revP {B pb xb : Nat} {T : TypeId} {t : Pw} {X : List Own} {W : World} {x z : Int} (h : QcE B pb t (bxT T xb [.int .i64 x, .int .i64 z] :: X) W) (hB : B ≤ W.heap.size) :
 Calls Tryz.prog 126 #[.slice (some ⟨xb, 0, none⟩) 2 2] W fun e w' => e = .returned (.tuple #[]) ∧ QcE B pb t (bxT T xb [.int .i64 z, .int .i64 x] :: X) w' ∧ Below B W w' := by
 obtain ⟨vL, vB, vC, vR, vs, h⟩ := h
 exact (revP_any h.front hB).mono fun e w' ⟨h1, h2, h3⟩ => ⟨h1, ⟨_, _, _, _, _, QcA.back h2 h.vl⟩, h3⟩
def cabP (u : List Int) (a : Nat) : List (List Int) := (u.drop a ++ u.take a).map fun x => [x]
theorem map_addZ (A : Option Addr) : A.map (·.add 0) = A := by
 cases A with
 | none => rfl
 | some a => obtain ⟨b, o, e⟩ := a; simp [Addr.add]; try (split <;> simp_all)
theorem run_takeJ {w : World} {A : Option Addr} {len c n : Nat} (hn : n ≤ c) :
 (Instr.slice 22 (.slice A len c) none (some (.int .i64 (n : Int))) none).run Tryz.prog w = .ok (.slice A n c) w := by
 obtain ⟨i, hi, hz0, hz, hz2⟩ := info_parts info_int'
 simp [Instr.slice, Instr.sliceBounds, Instr.sliceBound, run_underlying Tryz.underlying22, sizeOf, typeInfo, hi, Result.andThen, asIntOf, hn, map_addZ]
theorem run_dropJ {w : World} {g len c n : Nat} (hl : len ≤ c) (hn : n < len) :
 (Instr.slice 22 (.slice (some ⟨g, 0, none⟩) len c) (some (.int .i64 (n : Int))) none none).run Tryz.prog w = .ok (.slice (some ⟨g, n, none⟩) (len - n) (c - n)) w := by
 obtain ⟨i, hi, hz0, hz, hz2⟩ := info_parts info_int'
 have h1 : ¬ c = n := by omega
 have h2 : n ≤ len := by omega
 simp [Instr.slice, Instr.sliceBounds, Instr.sliceBound, run_underlying Tryz.underlying22, sizeOf, typeInfo, hi, hz, Result.andThen, asIntOf, h1, h2]
 unfold Addr.add
 simp
 omega
set_option maxHeartbeats 8000000 in
theorem pcable6 (B pb : Nat) (t : Pw) (row k : Int) (a b N : Nat) (ha : 1 ≤ a ∧ a ≤ 6) (hb : 1 ≤ b ∧ b ≤ 6) (hN : N = a + b) (purl : Bool) (ua : Option Addr) (uc : Nat) (u : List Int) (hu : u.length = N) (X : List Own) (hl : t.lp.length ≤ 50000) (hcl : t.cross.length ≤ 50000) (w : World) (h : QcE B pb t (pxJ (.slice ua N uc) u :: X) w) (hB : B ≤ w.heap.size) :
 Calls Tryz.prog 127 #[.pointer (some ⟨pb, 0, none⟩), .agg #[.int .i64 row, .int .i64 k, .slice none 0 0, .bool purl], .agg #[.int .u8 6, .bool purl, .int .i64 (a : Int), .int .i64 (b : Int)], .slice ua N uc] w fun e w' => WoPost B pb ⟨t.lp ++ addL row k purl (cabP u a), t.bound, t.cross ++ crossN ⟨6, purl, (a : Int), (b : Int)⟩ t.lp.length a, t.rows, t.next⟩ (pxJ (.slice ua N uc) u :: X) w e w' := by
 obtain ⟨g, uc', eu, -⟩ := pxJ_at (h.mem List.mem_cons_self) (i := 0) (x := u[0]'(by omega)) (List.getElem?_eq_getElem _) hu
 cases eu
 have hcap : N ≤ uc := by
  have h0 : w.ownsRow B 3 1 (.slice (some ⟨g, 0, none⟩) N uc) u.length (u.map (Value.int .i64)) := h.mem List.mem_cons_self
  obtain ⟨a', c', e, h2⟩ := own_slice h0
  injection e with e1 e2 e3
  omega
 have hal := al_t w (.cells #[.int .i64 row, .int .i64 k, .slice none 0 0, .bool purl] 68)
 obtain ⟨n1, n2⟩ := h.box hB row k purl
 obtain ⟨lb, hlb⟩ : ∃ lb, lb = w.heap.size := ⟨_, rfl⟩
 obtain ⟨w1, hw1⟩ : ∃ w1, w1 = w.alloc (.cells #[.int .i64 row, .int .i64 k, .slice none 0 0, .bool purl] 68) := ⟨_, rfl⟩
 rw [← hlb, ← hw1] at n1
 rw [← hw1] at n2
 have hB1 : B ≤ w1.heap.size := Nat.le_trans hB n2.size
 have hal1 := al_t w1 (.cells #[.int .u8 6, .bool purl, .int .i64 (a : Int), .int .i64 (b : Int)] 96)
 have n3 := n1.add hal1 hB1 (bxT_new w1 96 (⟨6, purl, (a : Int), (b : Int)⟩ : Stc).cells)
 obtain ⟨cb, hcb⟩ : ∃ cb, cb = w.heap.size + 1 := ⟨_, rfl⟩
 have hcb1 : w1.heap.size = cb := by rw [hcb, hw1]; simp
 rw [hcb1] at n3
 have HX : Hid (QcE B pb t (stB cb ⟨6, purl, (a : Int), (b : Int)⟩ :: lpO lb row k (.slice none 0 0) purl :: pxJ (.slice (some ⟨g, 0, none⟩) N uc) u :: X) ((w.alloc (.cells #[.int .i64 row, .int .i64 k, .slice none 0 0, .bool purl] 68)).alloc (.cells #[.int .u8 6, .bool purl, .int .i64 (a : Int), .int .i64 (b : Int)] 96)) ∧ Below B w ((w.alloc (.cells #[.int .i64 row, .int .i64 k, .slice none 0 0, .bool purl] 68)).alloc (.cells #[.int .u8 6, .bool purl, .int .i64 (a : Int), .int .i64 (b : Int)] 96))) := by
  rw [← hw1]
  exact ⟨n3, n2.trans (hal1.mono hB1)⟩
 have HNe := Lib.hid hN
 have HN12 : Hid (1 ≤ N ∧ N ≤ 12 ∧ a ≤ N ∧ a < N) := by show _ ∧ _; omega
 clear h hal n1 n2 n3 hal1 hB1 hcb1 hw1 hN
 go_enter Tryz.func127, Tryz.ntmps127
 go_upto_region 1 with fail
 refine abs_world (Q := fun W => Code.wp _ _ _ _ W) (F := fun W => QcE B pb t (stB cb ⟨6, purl, (a : Int), (b : Int)⟩ :: lpO lb row k (.slice none 0 0) purl :: pxJ (.slice (some ⟨g, 0, none⟩) N uc) u :: X) W ∧ Below B w W) _ HX.out ?_
 clear HX
 try simp only [World.size_alloc]
 try rw [← hcb, ← hlb]
 clear hcb hlb
 rintro W1 ⟨h1, hb1⟩
 have hN := HNe.out
 obtain ⟨a0, c0, y0, -⟩ := h1.loops
 obtain ⟨x0, x1, x2, x3⟩ := stB_at (h1.mem List.mem_cons_self)
 obtain ⟨F, hF⟩ : ∃ F, F = t.lp.length := ⟨_, rfl⟩
 have HFe := Lib.hid hF
 rw [← hF] at y0
 have HX1 := Lib.hid (And.intro h1 hb1)
 have hB1 : B ≤ W1.heap.size := Nat.le_trans hB hb1.size
 have hbd : Below W1.heap.size W1 W1.drew := Below.drew (Below.refl _ _)
 have hal2 := hbd.trans ((al_t W1.drew (.cells #[.slice (some ⟨g, a, none⟩) (N - a) (uc - a), .slice (some ⟨g, 0, none⟩) a uc] 22)).mono hbd.size)
 have hsl0 := pxJ_lies (h1.mem (List.mem_cons_of_mem _ (List.mem_cons_of_mem _ List.mem_cons_self)))
 obtain ⟨w2, hw2⟩ : ∃ w2, w2 = (W1.alloc (.cells #[.slice (some ⟨g, a, none⟩) (N - a) (uc - a), .slice (some ⟨g, 0, none⟩) a uc] 22)).drew := ⟨_, rfl⟩
 have hal2' : Below W1.heap.size W1 w2 := by rw [hw2]; exact hal2
 have hrows : SlRows w2 w2.heap.size (some ⟨W1.heap.size, 0, none⟩) [u.drop a, u.take a] := fun _ => by
  have hc : ∀ j y, u[j]? = some y → w2.cell? ⟨g, j, none⟩ = some (.int .i64 y) ∧ g < W1.heap.size := fun j y hy => by
   obtain ⟨b', o', e, hlt, hcc⟩ := hsl0 (fun e => by rw [e] at hy; simp at hy)
   cases e
   have := hcc j y hy
   rw [Nat.zero_add] at this
   exact ⟨(bcell hal2' hlt _).trans this, hlt⟩
  have hgl : g < w2.heap.size := Nat.lt_of_lt_of_le (hc 0 _ (List.getElem?_eq_getElem (show 0 < u.length by omega))).2 hal2'.size
  refine ⟨W1.heap.size, 0, rfl, by rw [hw2]; simp, fun j row hj => ?_⟩
  match j with
  | 0 =>
    simp at hj
    subst hj
    refine ⟨some ⟨g, a, none⟩, uc - a, ?_, by rw [List.length_drop]; omega, fun _ => ⟨g, a, rfl, hgl, fun i z hz => ?_⟩⟩
    · rw [List.length_drop, hu, hw2]
      exact cell_new (w1 := (W1.alloc (.cells #[.slice (some ⟨g, a, none⟩) (N - a) (uc - a), .slice (some ⟨g, 0, none⟩) a uc] 22))) rfl rfl rfl
    · rw [List.getElem?_drop] at hz
      exact (hc _ _ hz).1
  | 1 =>
    simp at hj
    subst hj
    refine ⟨some ⟨g, 0, none⟩, uc, ?_, by rw [List.length_take]; omega, fun _ => ⟨g, 0, rfl, hgl, fun i z hz => ?_⟩⟩
    · rw [List.length_take, hu, show min a N = a by omega, hw2]
      exact cell_new (w1 := (W1.alloc (.cells #[.slice (some ⟨g, a, none⟩) (N - a) (uc - a), .slice (some ⟨g, 0, none⟩) a uc] 22))) rfl rfl rfl
    · rw [Nat.zero_add]
      rw [List.getElem?_take] at hz
      split at hz
      · exact (hc _ _ hz).1
      · cases hz
  | j + 2 => simp at hj
 have HC0 := concat_any (some ⟨W1.heap.size, 0, none⟩) 2 [u.drop a, u.take a] w2 hrows (by simp) (fun row hr => by
  simp at hr
  rcases hr with rfl | rfl
  · rw [List.length_drop]; omega
  · rw [List.length_take]; omega)
 rw [hw2] at HC0 hal2'
 have HC := Lib.hid HC0
 have HQ2 := Lib.hid (And.intro (h1.to hal2') (hb1.trans (hal2'.mono hB1)))
 have HKd := Lib.hid ((stB_at ((h1.to hbd).mem List.mem_cons_self)).2.2.1)
 have HKe := Lib.hid ((stB_at ((h1.to hal2').mem List.mem_cons_self)).2.2.1)
 have ht := run_takeJ (w := W1.drew) (A := some ⟨g, 0, none⟩) (len := N) (c := uc) (n := a) (by omega)
 have hd := run_dropJ (w := W1.drew) (g := g) (len := N) (c := uc) (n := a) hcap (by omega)
 have z0 : (0 : Int) ≤ (a : Int) := by omega
 have z1 : (a : Int) ≤ (N : Int) := by omega
 have z2 : (a : Int) ≤ (uc : Int) := by omega
 have z3 : (N : Int) ≤ (uc : Int) := by omega
 have z4 : ¬ uc = a := by omega
 have hsl : Hid (∀ W', Below W1.heap.size W1 W' → W'.cell? ⟨cb, 2, none⟩ = some (.int .i64 (a : Int))) := fun W' hb => (stB_at ((h1.to hb).mem List.mem_cons_self)).2.2.1
 clear h1 hb1 hbd hal2 hal2' hrows HC0 hw2 hF hsl0
 obtain ⟨L, hL⟩ : ∃ L, L = u.drop a ++ u.take a := ⟨_, rfl⟩
 have hLn : L.length = N := by rw [hL, List.length_append, List.length_drop, List.length_take]; omega
 have HLn := Lib.hid hLn
 have HFl : Hid (∀ w B v, ownI w B v [u.drop a, u.take a].flatten → (pxJ v L).lies w B) := fun w B v h => by
  have e : [u.drop a, u.take a].flatten = L := by rw [hL]; simp
  rw [e] at h
  exact h
 have HBq : Hid (B ≤ ((W1.alloc (.cells #[.slice (some ⟨g, a, none⟩) (N - a) (uc - a), .slice (some ⟨g, 0, none⟩) a uc] 22)).drew).heap.size) := Nat.le_trans hB HQ2.out.2.size
 have HLe := Lib.hid hL
 clear hL hLn hN
 go_upto_region 2 with fail
 go_region_held3 (fun W' => W'.cell? ⟨cb, 2, none⟩ = some (.int .i64 (a : Int)))
  (first | (with_reducible exact HKd.out) | (with_reducible exact HKe.out) | (with_reducible exact HK5.out) | fail)
  (first | (go_at_call 154; refine HC.out.mono ?_; rintro e w5 ⟨v, rfl, ho5, hb5⟩; have h5 := HQ2.out.1.add hb5 HBq.out (HFl.out _ _ _ ho5); obtain ⟨va, vc, rfl⟩ := pxJ_is (h5.mem List.mem_cons_self) HLn.out; have HK5 := Lib.hid ((stB_at (h5.mem (List.mem_cons_of_mem _ List.mem_cons_self))).2.2.1); have H5 := Lib.hid (And.intro h5 (HQ2.out.2.trans (hb5.mono HBq.out))); clear h5 ho5 hb5))
 clear HC HQ2 HKd HKe ht hd z0 z1 z2 z3 z4 hsl HFl HBq HX1 hB1 x0 x1 x2 x3 y0
 have HX5 : Hid (QcE B pb ⟨t.lp ++ addL row k purl ((L.take 0).map fun x => [x]), t.bound, t.cross, t.rows, t.next⟩ (pxJ (.slice va N vc) L :: (stB cb ⟨6, purl, (a : Int), (b : Int)⟩ :: lpO lb row k (.slice none 0 0) purl :: pxJ (.slice (some ⟨g, 0, none⟩) N uc) u :: X)) w5 ∧ Below B w w5) := by
  have e : t.lp ++ addL row k purl ((L.take 0).map fun x => [x]) = t.lp := by simp [addL]
  rw [e]
  exact H5.out
 clear H5 HK5
 go_wp2
 go_loopw [10, 30] (fun s10 s30 wr => ∃ (m : Nat) (v10 : Value), m ≤ N ∧ s30 = .int .i64 (m : Int) ∧ v10 = s10 ∧ Hid (QcE B pb ⟨t.lp ++ addL row k purl ((L.take m).map fun x => [x]), t.bound, t.cross, t.rows, t.next⟩ (pxJ (.slice va N vc) L :: (stB cb ⟨6, purl, (a : Int), (b : Int)⟩ :: lpO lb row k (.slice none 0 0) purl :: pxJ (.slice (some ⟨g, 0, none⟩) N uc) u :: X)) wr ∧ Below B w wr)) (fun _ s30 _ => N - (intOf s30).toNat)
 case atStart => exact ⟨0, _, Nat.zero_le _, rfl, rfl, HX5.out⟩
 case round =>
  obtain ⟨m, v10, hm, rfl, rfl, HX⟩ := hrel
  clear HX5
  obtain ⟨W, hW⟩ : ∃ x : World, x = wr := ⟨_, rfl⟩
  rw [← hW] at HX ⊢
  clear hW
  have hN12 : N ≤ 12 := HN12.out.2.1
  by_cases hlt : m < N
  · have HLt : Hid (m + 1 ≤ N ∧ m < N) := by show _ ∧ _; omega
    have d1 : decide ((m : Int) < (N : Int)) = true := decide_eq_true (by omega)
    have d1' : decide (m < N) = true := decide_eq_true hlt
    have hmx : L[m]? = some (L[m]'(by have := HLn.out; omega)) := List.getElem?_eq_getElem _
    obtain ⟨x, hx⟩ : ∃ x, x = L[m]'(by have := HLn.out; omega) := ⟨_, rfl⟩
    rw [← hx] at hmx
    clear hx
    obtain ⟨vg, vc', ev, z0⟩ := pxJ_at (HX.out.1.mem List.mem_cons_self) hmx HLn.out
    cases ev
    have hBW : B ≤ W.heap.size := Nat.le_trans hB HX.out.2.size
    obtain ⟨b1, -⟩ := bxT_at (HX.out.1.mem (o := lpO lb row k (.slice none 0 0) purl) (by simp))
    have y0 := b1 0 _ rfl
    have y1 := b1 1 _ rfl
    have y2 := b1 2 _ rfl
    have y3 := b1 3 _ rfl
    obtain ⟨n1, n2⟩ := HX.out.1.lit hBW x
    obtain ⟨n3, n4⟩ := n1.one (Nat.le_trans hBW n2.size)
    simp only [World.size_alloc, List.length_singleton] at n3
    have hBW3 := Nat.le_trans (Nat.le_trans hBW n2.size) n4.size
    have hBx0 := (HX.out.2.trans n2).trans n4
    simp only [List.length_singleton] at hBW3 hBx0
    have hml : (addL row k purl ((L.take m).map fun x => [x])).length = m := by rw [addL_len, List.length_map, List.length_take, HLn.out]; omega
    have e5 : addL row k purl ((L.take m).map fun x => [x]) ++ addL row k purl [[x]] = addL row k purl ((L.take (m + 1)).map fun x => [x]) := by
     unfold addL
     rw [← List.map_append, List.take_add_one, hmx]
     simp
    have hHA := padd_any B pb ⟨t.lp ++ addL row k purl ((L.take m).map fun x => [x]), t.bound, t.cross, t.rows, t.next⟩ row k (.slice none 0 0) purl (some ⟨W.heap.size + 1, 0, none⟩) 1 1 [.slice (some ⟨W.heap.size, 0, none⟩) 1 1] [[x]] rfl rfl (by show (t.lp ++ addL row k purl ((L.take m).map fun x => [x])).length + 1 ≤ 100000; rw [List.length_append, hml]; have := HN12.out; omega) _ _ n3 (Nat.le_trans (Nat.le_trans hBW n2.size) n4.size)
    simp only [List.append_assoc, e5] at hHA
    have HA := Lib.hid hHA
    have HBx := Lib.hid hBx0
    clear hHA n1 n2 n3 n4 HX e5 hml b1 hmx hBW3 hBx0 hBW
    go_wp2_with (go_at_call 125; refine HA.out.mono ?_; rintro e w6 ⟨rfl, h6, hb6⟩)
    have HQ := Lib.hid (And.intro h6 (HBx.out.trans hb6))
    clear h6 hb6 HA
    go_roundw
    case rel => exact ⟨m + 1, _, HLt.out.1, by go_num, rfl, HQ.out⟩
    case measure => simp [intOf]; have := HLt.out; omega
  · have hmn : m = N := by omega
    have hX := HX.out
    rw [hmn] at hX
    have e5 : (L.take N).map (fun x => [x]) = cabP u a := by unfold cabP; rw [List.take_of_length_le (by have := HLn.out; omega), HLe.out]
    rw [e5] at hX
    have HX6 := Lib.hid hX
    clear hX HX e5 hmn
    obtain ⟨LP, hLP⟩ : ∃ LP, LP = t.lp ++ addL row k purl (cabP u a) := ⟨_, rfl⟩
    have HLP := Lib.hid hLP
    have HX7 : Hid (QcE B pb ⟨LP, t.bound, t.cross ++ crossN ⟨6, purl, (a : Int), (b : Int)⟩ F 0, t.rows, t.next⟩ (pxJ (.slice va N vc) L :: (stB cb ⟨6, purl, (a : Int), (b : Int)⟩ :: lpO lb row k (.slice none 0 0) purl :: pxJ (.slice (some ⟨g, 0, none⟩) N uc) u :: X)) W ∧ Below B w W) := by
     rw [show crossN ⟨6, purl, (a : Int), (b : Int)⟩ F 0 = [] from rfl, List.append_nil, hLP]
     exact HX6.out
    have HFl : Hid (F ≤ 50000) := by show _ ≤ _; rw [HFe.out]; exact hl
    clear HX6 hLP
    go_upto_region 7 with fail
    refine abs_world (Q := fun W => Code.wp _ _ _ _ W) (F := fun W => QcE B pb ⟨LP, t.bound, t.cross ++ crossN ⟨6, purl, (a : Int), (b : Int)⟩ F 0, t.rows, t.next⟩ (pxJ (.slice va N vc) L :: (stB cb ⟨6, purl, (a : Int), (b : Int)⟩ :: lpO lb row k (.slice none 0 0) purl :: pxJ (.slice (some ⟨g, 0, none⟩) N uc) u :: X)) W ∧ Below B w W) _ HX7.out ?_
    clear HX7 hlt hm
    clear W
    rintro W hX7
    obtain ⟨x0, x1, x2, x3⟩ := stB_at (hX7.1.mem (List.mem_cons_of_mem _ List.mem_cons_self))
    have HX8 := Lib.hid hX7
    clear hX7
    go_wp2
    go_loopw [11, 12, 13, 43] (fun s11 s12 s13 s43 wr => ∃ (i : Nat) (v11 v12 v13 : Value), i ≤ a ∧ s43 = .int .i64 (i : Int) ∧ v11 = s11 ∧ v12 = s12 ∧ v13 = s13 ∧ Hid (QcE B pb ⟨LP, t.bound, t.cross ++ crossN ⟨6, purl, (a : Int), (b : Int)⟩ F i, t.rows, t.next⟩ (pxJ (.slice va N vc) L :: (stB cb ⟨6, purl, (a : Int), (b : Int)⟩ :: lpO lb row k (.slice none 0 0) purl :: pxJ (.slice (some ⟨g, 0, none⟩) N uc) u :: X)) wr ∧ Below B w wr)) (fun _ _ _ s43 _ => a - (intOf s43).toNat)
    case atStart => exact ⟨0, _, _, _, Nat.zero_le _, rfl, rfl, rfl, rfl, HX8.out⟩
    case round =>
     obtain ⟨i, v11, v12, v13, hi, rfl, rfl, rfl, rfl, HX9⟩ := hrel
     clear HX8 x0 x1 x2 x3
     obtain ⟨W2, hW2⟩ : ∃ x : World, x = wr := ⟨_, rfl⟩
     rw [← hW2] at HX9 ⊢
     clear hW2
     obtain ⟨x0, x1, x2, x3⟩ := stB_at (HX9.out.1.mem (List.mem_cons_of_mem _ List.mem_cons_self))
     have ha6 : a ≤ 6 := ha.2
     by_cases hia : i < a
     case neg =>
      have d1 : decide ((i : Int) < (a : Int)) = false := decide_eq_false (by omega)
      have d1' : decide (i < a) = false := decide_eq_false hia
      have hie : i = a := by omega
      have hX := HX9.out
      rw [hie, HLP.out, HFe.out] at hX
      have HQ := Lib.hid hX
      clear hX HX9 hie
      go_wp2
      refine bodyPost_end (results_none rfl _ _ _) rfl ?_
      exact ⟨rfl, HQ.out.1.lift ((List.sublist_cons_self _ _).trans ((List.sublist_cons_self _ _).trans (List.sublist_cons_self _ _))), HQ.out.2⟩
     case pos =>
      have d1 : decide ((i : Int) < (a : Int)) = true := decide_eq_true (by omega)
      have d1' : decide (i < a) = true := decide_eq_true hia
      have HX10 : Hid (QcE B pb ⟨LP, t.bound, t.cross ++ crossN ⟨6, purl, (a : Int), (b : Int)⟩ F i ++ crossI ⟨6, purl, (a : Int), (b : Int)⟩ F i 0, t.rows, t.next⟩ (pxJ (.slice va N vc) L :: (stB cb ⟨6, purl, (a : Int), (b : Int)⟩ :: lpO lb row k (.slice none 0 0) purl :: pxJ (.slice (some ⟨g, 0, none⟩) N uc) u :: X)) W2 ∧ Below B w W2) := by
       rw [show crossI ⟨6, purl, (a : Int), (b : Int)⟩ F i 0 = [] from rfl, List.append_nil]
       exact HX9.out
      clear HX9
      go_wp2
      go_loopw [12, 13, 48] (fun s12 s13 s48 wr => ∃ (m : Nat) (v12 v13 : Value), m ≤ b ∧ s48 = .int .i64 (m : Int) ∧ v12 = s12 ∧ v13 = s13 ∧ Hid (QcE B pb ⟨LP, t.bound, t.cross ++ crossN ⟨6, purl, (a : Int), (b : Int)⟩ F i ++ crossI ⟨6, purl, (a : Int), (b : Int)⟩ F i m, t.rows, t.next⟩ (pxJ (.slice va N vc) L :: (stB cb ⟨6, purl, (a : Int), (b : Int)⟩ :: lpO lb row k (.slice none 0 0) purl :: pxJ (.slice (some ⟨g, 0, none⟩) N uc) u :: X)) wr ∧ Below B w wr)) (fun _ _ s48 _ => b - (intOf s48).toNat)
      case atStart => exact ⟨0, _, _, Nat.zero_le _, rfl, rfl, rfl, HX10.out⟩
      case round =>
       obtain ⟨m, v12', v13', hm, rfl, rfl, rfl, HX11⟩ := hrel
       clear HX10 x0 x1 x2 x3 d1 d1'
       obtain ⟨W5, hW5⟩ : ∃ x : World, x = wr := ⟨_, rfl⟩
       rw [← hW5] at HX11 ⊢
       clear hW5
       obtain ⟨x0, x1, x2, x3⟩ := stB_at (HX11.out.1.mem (List.mem_cons_of_mem _ List.mem_cons_self))
       have hb6 : b ≤ 6 := hb.2
       by_cases hmb : m < b
       case neg =>
        have d1 : decide ((m : Int) < (b : Int)) = false := decide_eq_false (by omega)
        have d1' : decide (m < b) = false := decide_eq_false hmb
        have hme : m = b := by omega
        have HQ : Hid (QcE B pb ⟨LP, t.bound, t.cross ++ crossN ⟨6, purl, (a : Int), (b : Int)⟩ F (i + 1), t.rows, t.next⟩ (pxJ (.slice va N vc) L :: (stB cb ⟨6, purl, (a : Int), (b : Int)⟩ :: lpO lb row k (.slice none 0 0) purl :: pxJ (.slice (some ⟨g, 0, none⟩) N uc) u :: X)) W5 ∧ Below B w W5) := by
         rw [crossN_next, show (⟨6, purl, (a : Int), (b : Int)⟩ : Stc).b.toNat = b from rfl, ← List.append_assoc]
         have e := HX11.out
         rw [hme] at e
         exact e
        have HIa : Hid (i + 1 ≤ a ∧ i < a) := by show _ ∧ _; omega
        clear HX11 hme
        go_wp2
        go_roundw
        case rel => exact ⟨i + 1, _, _, _, HIa.out.1, by go_num, rfl, rfl, rfl, HQ.out⟩
        case measure => simp [intOf]; have := HIa.out; omega
       case pos =>
        have d1 : decide ((m : Int) < (b : Int)) = true := decide_eq_true (by omega)
        have d1' : decide (m < b) = true := decide_eq_true hmb
        have hF5 : F ≤ 50000 := HFl.out
        obtain ⟨x, hx⟩ : ∃ x : Int, x = ((F + b + i : Nat) : Int) := ⟨_, rfl⟩
        obtain ⟨z, hz⟩ : ∃ z : Int, z = ((F + m : Nat) : Int) := ⟨_, rfl⟩
        obtain ⟨fb, hfb⟩ : ∃ z : Int, z = (F : Int) + (b : Int) := ⟨_, rfl⟩
        have hw1 : IntKind.i64.wrap ((F : Int) + (b : Int)) = fb := by rw [hfb]; exact IntWalk.i64_in _ (by omega)
        have hw2 : IntKind.i64.wrap (fb + (i : Int)) = x := by rw [hfb, hx, Int.natCast_add, Int.natCast_add]; exact IntWalk.i64_in _ (by omega)
        have hw3 : IntKind.i64.wrap ((F : Int) + (m : Int)) = z := by rw [hz, Int.natCast_add]; exact IntWalk.i64_in _ (by omega)
        have hcp : crossP ⟨6, purl, (a : Int), (b : Int)⟩ F i m = (x, z) := by
         rw [hx, hz]
         unfold crossP
         simp
        have hcl8 : (t.cross ++ crossN ⟨6, purl, (a : Int), (b : Int)⟩ F i ++ crossI ⟨6, purl, (a : Int), (b : Int)⟩ F i m).length ≤ 100000 := by
         rw [List.length_append, List.length_append, crossN_len, crossI_len]
         have h1 : (⟨6, purl, (a : Int), (b : Int)⟩ : Stc).b.toNat = b := rfl
         rw [h1]
         have : i * b ≤ 6 * 6 := Nat.mul_le_mul (by omega) (by omega)
         omega
        have hcx := crossI_next ⟨6, purl, (a : Int), (b : Int)⟩ F i m
        rw [hcp] at hcx
        have HCx := Lib.hid (And.intro hcl8 hcx)
        have hB5 : B ≤ W5.heap.size := Nat.le_trans hB HX11.out.2.size
        have hal5 := al_t W5 (.cells #[.int .i64 x, .int .i64 z] 48)
        obtain ⟨xb, hxb⟩ : ∃ xb, xb = W5.heap.size := ⟨_, rfl⟩
        have HN5 := Lib.hid (And.intro (HX11.out.1.add hal5 hB5 (bxT_new W5 48 [.int .i64 x, .int .i64 z])) (HX11.out.2.trans (hal5.mono hB5)))
        rw [← hxb] at HN5
        clear HX11 hal5 hB5 hcl8 hcx hcp hx hz hfb
        obtain ⟨CR, hCR⟩ : ∃ CR, CR = t.cross ++ crossN ⟨6, purl, (a : Int), (b : Int)⟩ F i ++ crossI ⟨6, purl, (a : Int), (b : Int)⟩ F i m := ⟨_, rfl⟩
        rw [← hCR] at HN5 HCx
        go_upto_region 14 with fail
        refine abs_world (Q := fun W => Code.wp _ _ _ _ W) (F := fun W => QcE B pb ⟨LP, t.bound, CR, t.rows, t.next⟩ (bxT 48 xb [.int .i64 x, .int .i64 z] :: pxJ (.slice va N vc) L :: (stB cb ⟨6, purl, (a : Int), (b : Int)⟩ :: lpO lb row k (.slice none 0 0) purl :: pxJ (.slice (some ⟨g, 0, none⟩) N uc) u :: X)) W ∧ Below B w W) _ HN5.out ?_
        rw [← hxb]
        clear HN5 hxb x0 x1 x2 x3
        rintro W6 ⟨h6, hb6⟩
        obtain ⟨x0, x1, x2, x3⟩ := stB_at (h6.mem (List.mem_cons_of_mem _ (List.mem_cons_of_mem _ List.mem_cons_self)))
        obtain ⟨W7, hW7⟩ : ∃ x : World, x = W6 := ⟨_, rfl⟩
        rw [← hW7] at h6 hb6 x0 x1 x2 x3 ⊢
        clear hW7
        have h7 := h6
        have hb7 := hb6
        clear h6 hb6
        go_upto_region 16 with fail
        obtain ⟨p1', -⟩ := bxT_at (h7.mem List.mem_cons_self)
        have p0 := p1' 0 _ rfl
        have p1 := p1' 1 _ rfl
        have hB7 : B ≤ W7.heap.size := Nat.le_trans hB hb7.size
        have hbd : Below W7.heap.size W7 W7.drew := Below.drew (Below.refl _ _)
        obtain ⟨vL, vB, vC, vR, vs, hP⟩ := h7.to hbd
        obtain ⟨a1, c1, rfl⟩ := hP.forms.2.2.1
        have y3 : W7.cell? ⟨pb, 3, none⟩ = some (.slice a1 CR.length c1) := hP.cells.2.2.2.1
        have y3a := cell_al y3 (prB (x, z))
        obtain ⟨A', c', w', hr9, hf, y3', hQ, hb2⟩ := hP.pushX hB7 HCx.out.1 (x, z)
        have hr : (Builtin.append_ #[23, 23] 23 #[.slice a1 CR.length c1, .slice (some ⟨W7.heap.size, 0, none⟩) 1 1]).run Tryz.prog ((W7.alloc (prB (x, z))).drew) = .ok (.slice A' (CR.length + 1) c') w' := hr9
        have HQ : Hid (QcE B pb ⟨LP, t.bound, t.cross ++ crossN ⟨6, purl, (a : Int), (b : Int)⟩ F i ++ crossI ⟨6, purl, (a : Int), (b : Int)⟩ F i (m + 1), t.rows, t.next⟩ (pxJ (.slice va N vc) L :: (stB cb ⟨6, purl, (a : Int), (b : Int)⟩ :: lpO lb row k (.slice none 0 0) purl :: pxJ (.slice (some ⟨g, 0, none⟩) N uc) u :: X)) (w'.setCell ⟨pb, 3, none⟩ (.slice A' (CR.length + 1) c')) ∧ Below B w (w'.setCell ⟨pb, 3, none⟩ (.slice A' (CR.length + 1) c'))) := by
         refine ⟨?_, hb7.trans ((hbd.mono hB7).trans hb2)⟩
         rw [HCx.out.2, ← List.append_assoc, ← hCR]
         exact QcE.lift ⟨_, _, _, _, _, hQ⟩ (List.sublist_cons_self _ _)
        have HMb : Hid (m + 1 ≤ b ∧ m < b) := by show _ ∧ _; omega
        have hf3 := hf 3
        obtain ⟨cn, hcn⟩ : ∃ cn, cn = CR.length := ⟨_, rfl⟩
        simp only [← hcn] at hr y3 y3a y3' HQ ⊢
        clear HCx hf hQ hb2 hP h7 hb7 p1' hcn hB7 hr9 hbd hCR
        go_region_law (refine step_append_run (by rfl) _ _ _ _ (by rfl) _ _ (by rfl) (by rfl) hr ?_)
        all_goals
         go_wp2
         go_roundw
         case rel => exact ⟨m + 1, _, _, HMb.out.1, by go_num, rfl, rfl, HQ.out⟩
         case measure => simp [intOf]; have := HMb.out; omega
set_option maxHeartbeats 8000000 in
theorem pcable7 (B pb : Nat) (t : Pw) (row k : Int) (a b N : Nat) (ha : 1 ≤ a ∧ a ≤ 6) (hb : 1 ≤ b ∧ b ≤ 6) (hN : N = a + b) (purl : Bool) (ua : Option Addr) (uc : Nat) (u : List Int) (hu : u.length = N) (X : List Own) (hl : t.lp.length ≤ 50000) (hcl : t.cross.length ≤ 50000) (w : World) (h : QcE B pb t (pxJ (.slice ua N uc) u :: X) w) (hB : B ≤ w.heap.size) :
 Calls Tryz.prog 127 #[.pointer (some ⟨pb, 0, none⟩), .agg #[.int .i64 row, .int .i64 k, .slice none 0 0, .bool purl], .agg #[.int .u8 7, .bool purl, .int .i64 (a : Int), .int .i64 (b : Int)], .slice ua N uc] w fun e w' => WoPost B pb ⟨t.lp ++ addL row k purl (cabP u a), t.bound, t.cross ++ crossN ⟨7, purl, (a : Int), (b : Int)⟩ t.lp.length a, t.rows, t.next⟩ (pxJ (.slice ua N uc) u :: X) w e w' := by
 obtain ⟨g, uc', eu, -⟩ := pxJ_at (h.mem List.mem_cons_self) (i := 0) (x := u[0]'(by omega)) (List.getElem?_eq_getElem _) hu
 cases eu
 have hcap : N ≤ uc := by
  have h0 : w.ownsRow B 3 1 (.slice (some ⟨g, 0, none⟩) N uc) u.length (u.map (Value.int .i64)) := h.mem List.mem_cons_self
  obtain ⟨a', c', e, h2⟩ := own_slice h0
  injection e with e1 e2 e3
  omega
 have hal := al_t w (.cells #[.int .i64 row, .int .i64 k, .slice none 0 0, .bool purl] 68)
 obtain ⟨n1, n2⟩ := h.box hB row k purl
 obtain ⟨lb, hlb⟩ : ∃ lb, lb = w.heap.size := ⟨_, rfl⟩
 obtain ⟨w1, hw1⟩ : ∃ w1, w1 = w.alloc (.cells #[.int .i64 row, .int .i64 k, .slice none 0 0, .bool purl] 68) := ⟨_, rfl⟩
 rw [← hlb, ← hw1] at n1
 rw [← hw1] at n2
 have hB1 : B ≤ w1.heap.size := Nat.le_trans hB n2.size
 have hal1 := al_t w1 (.cells #[.int .u8 7, .bool purl, .int .i64 (a : Int), .int .i64 (b : Int)] 96)
 have n3 := n1.add hal1 hB1 (bxT_new w1 96 (⟨7, purl, (a : Int), (b : Int)⟩ : Stc).cells)
 obtain ⟨cb, hcb⟩ : ∃ cb, cb = w.heap.size + 1 := ⟨_, rfl⟩
 have hcb1 : w1.heap.size = cb := by rw [hcb, hw1]; simp
 rw [hcb1] at n3
 have HX : Hid (QcE B pb t (stB cb ⟨7, purl, (a : Int), (b : Int)⟩ :: lpO lb row k (.slice none 0 0) purl :: pxJ (.slice (some ⟨g, 0, none⟩) N uc) u :: X) ((w.alloc (.cells #[.int .i64 row, .int .i64 k, .slice none 0 0, .bool purl] 68)).alloc (.cells #[.int .u8 7, .bool purl, .int .i64 (a : Int), .int .i64 (b : Int)] 96)) ∧ Below B w ((w.alloc (.cells #[.int .i64 row, .int .i64 k, .slice none 0 0, .bool purl] 68)).alloc (.cells #[.int .u8 7, .bool purl, .int .i64 (a : Int), .int .i64 (b : Int)] 96))) := by
  rw [← hw1]
  exact ⟨n3, n2.trans (hal1.mono hB1)⟩
 have HNe := Lib.hid hN
 have HN12 : Hid (1 ≤ N ∧ N ≤ 12 ∧ a ≤ N ∧ a < N) := by show _ ∧ _; omega
 clear h hal n1 n2 n3 hal1 hB1 hcb1 hw1 hN
 go_enter Tryz.func127, Tryz.ntmps127
 go_upto_region 1 with fail
 refine abs_world (Q := fun W => Code.wp _ _ _ _ W) (F := fun W => QcE B pb t (stB cb ⟨7, purl, (a : Int), (b : Int)⟩ :: lpO lb row k (.slice none 0 0) purl :: pxJ (.slice (some ⟨g, 0, none⟩) N uc) u :: X) W ∧ Below B w W) _ HX.out ?_
 clear HX
 try simp only [World.size_alloc]
 try rw [← hcb, ← hlb]
 clear hcb hlb
 rintro W1 ⟨h1, hb1⟩
 have hN := HNe.out
 obtain ⟨a0, c0, y0, -⟩ := h1.loops
 obtain ⟨x0, x1, x2, x3⟩ := stB_at (h1.mem List.mem_cons_self)
 obtain ⟨F, hF⟩ : ∃ F, F = t.lp.length := ⟨_, rfl⟩
 have HFe := Lib.hid hF
 rw [← hF] at y0
 have HX1 := Lib.hid (And.intro h1 hb1)
 have hB1 : B ≤ W1.heap.size := Nat.le_trans hB hb1.size
 have hbd : Below W1.heap.size W1 W1.drew := Below.drew (Below.refl _ _)
 have hal2 := hbd.trans ((al_t W1.drew (.cells #[.slice (some ⟨g, a, none⟩) (N - a) (uc - a), .slice (some ⟨g, 0, none⟩) a uc] 22)).mono hbd.size)
 have hsl0 := pxJ_lies (h1.mem (List.mem_cons_of_mem _ (List.mem_cons_of_mem _ List.mem_cons_self)))
 obtain ⟨w2, hw2⟩ : ∃ w2, w2 = (W1.alloc (.cells #[.slice (some ⟨g, a, none⟩) (N - a) (uc - a), .slice (some ⟨g, 0, none⟩) a uc] 22)).drew := ⟨_, rfl⟩
 have hal2' : Below W1.heap.size W1 w2 := by rw [hw2]; exact hal2
 have hrows : SlRows w2 w2.heap.size (some ⟨W1.heap.size, 0, none⟩) [u.drop a, u.take a] := fun _ => by
  have hc : ∀ j y, u[j]? = some y → w2.cell? ⟨g, j, none⟩ = some (.int .i64 y) ∧ g < W1.heap.size := fun j y hy => by
   obtain ⟨b', o', e, hlt, hcc⟩ := hsl0 (fun e => by rw [e] at hy; simp at hy)
   cases e
   have := hcc j y hy
   rw [Nat.zero_add] at this
   exact ⟨(bcell hal2' hlt _).trans this, hlt⟩
  have hgl : g < w2.heap.size := Nat.lt_of_lt_of_le (hc 0 _ (List.getElem?_eq_getElem (show 0 < u.length by omega))).2 hal2'.size
  refine ⟨W1.heap.size, 0, rfl, by rw [hw2]; simp, fun j row hj => ?_⟩
  match j with
  | 0 =>
    simp at hj
    subst hj
    refine ⟨some ⟨g, a, none⟩, uc - a, ?_, by rw [List.length_drop]; omega, fun _ => ⟨g, a, rfl, hgl, fun i z hz => ?_⟩⟩
    · rw [List.length_drop, hu, hw2]
      exact cell_new (w1 := (W1.alloc (.cells #[.slice (some ⟨g, a, none⟩) (N - a) (uc - a), .slice (some ⟨g, 0, none⟩) a uc] 22))) rfl rfl rfl
    · rw [List.getElem?_drop] at hz
      exact (hc _ _ hz).1
  | 1 =>
    simp at hj
    subst hj
    refine ⟨some ⟨g, 0, none⟩, uc, ?_, by rw [List.length_take]; omega, fun _ => ⟨g, 0, rfl, hgl, fun i z hz => ?_⟩⟩
    · rw [List.length_take, hu, show min a N = a by omega, hw2]
      exact cell_new (w1 := (W1.alloc (.cells #[.slice (some ⟨g, a, none⟩) (N - a) (uc - a), .slice (some ⟨g, 0, none⟩) a uc] 22))) rfl rfl rfl
    · rw [Nat.zero_add]
      rw [List.getElem?_take] at hz
      split at hz
      · exact (hc _ _ hz).1
      · cases hz
  | j + 2 => simp at hj
 have HC0 := concat_any (some ⟨W1.heap.size, 0, none⟩) 2 [u.drop a, u.take a] w2 hrows (by simp) (fun row hr => by
  simp at hr
  rcases hr with rfl | rfl
  · rw [List.length_drop]; omega
  · rw [List.length_take]; omega)
 rw [hw2] at HC0 hal2'
 have HC := Lib.hid HC0
 have HQ2 := Lib.hid (And.intro (h1.to hal2') (hb1.trans (hal2'.mono hB1)))
 have HKd := Lib.hid ((stB_at ((h1.to hbd).mem List.mem_cons_self)).2.2.1)
 have HKe := Lib.hid ((stB_at ((h1.to hal2').mem List.mem_cons_self)).2.2.1)
 have ht := run_takeJ (w := W1.drew) (A := some ⟨g, 0, none⟩) (len := N) (c := uc) (n := a) (by omega)
 have hd := run_dropJ (w := W1.drew) (g := g) (len := N) (c := uc) (n := a) hcap (by omega)
 have z0 : (0 : Int) ≤ (a : Int) := by omega
 have z1 : (a : Int) ≤ (N : Int) := by omega
 have z2 : (a : Int) ≤ (uc : Int) := by omega
 have z3 : (N : Int) ≤ (uc : Int) := by omega
 have z4 : ¬ uc = a := by omega
 have hsl : Hid (∀ W', Below W1.heap.size W1 W' → W'.cell? ⟨cb, 2, none⟩ = some (.int .i64 (a : Int))) := fun W' hb => (stB_at ((h1.to hb).mem List.mem_cons_self)).2.2.1
 clear h1 hb1 hbd hal2 hal2' hrows HC0 hw2 hF hsl0
 obtain ⟨L, hL⟩ : ∃ L, L = u.drop a ++ u.take a := ⟨_, rfl⟩
 have hLn : L.length = N := by rw [hL, List.length_append, List.length_drop, List.length_take]; omega
 have HLn := Lib.hid hLn
 have HFl : Hid (∀ w B v, ownI w B v [u.drop a, u.take a].flatten → (pxJ v L).lies w B) := fun w B v h => by
  have e : [u.drop a, u.take a].flatten = L := by rw [hL]; simp
  rw [e] at h
  exact h
 have HBq : Hid (B ≤ ((W1.alloc (.cells #[.slice (some ⟨g, a, none⟩) (N - a) (uc - a), .slice (some ⟨g, 0, none⟩) a uc] 22)).drew).heap.size) := Nat.le_trans hB HQ2.out.2.size
 have HLe := Lib.hid hL
 clear hL hLn hN
 go_upto_region 2 with fail
 go_region_held3 (fun W' => W'.cell? ⟨cb, 2, none⟩ = some (.int .i64 (a : Int)))
  (first | (with_reducible exact HKd.out) | (with_reducible exact HKe.out) | (with_reducible exact HK5.out) | fail)
  (first | (go_at_call 154; refine HC.out.mono ?_; rintro e w5 ⟨v, rfl, ho5, hb5⟩; have h5 := HQ2.out.1.add hb5 HBq.out (HFl.out _ _ _ ho5); obtain ⟨va, vc, rfl⟩ := pxJ_is (h5.mem List.mem_cons_self) HLn.out; have HK5 := Lib.hid ((stB_at (h5.mem (List.mem_cons_of_mem _ List.mem_cons_self))).2.2.1); have H5 := Lib.hid (And.intro h5 (HQ2.out.2.trans (hb5.mono HBq.out))); clear h5 ho5 hb5))
 clear HC HQ2 HKd HKe ht hd z0 z1 z2 z3 z4 hsl HFl HBq HX1 hB1 x0 x1 x2 x3 y0
 have HX5 : Hid (QcE B pb ⟨t.lp ++ addL row k purl ((L.take 0).map fun x => [x]), t.bound, t.cross, t.rows, t.next⟩ (pxJ (.slice va N vc) L :: (stB cb ⟨7, purl, (a : Int), (b : Int)⟩ :: lpO lb row k (.slice none 0 0) purl :: pxJ (.slice (some ⟨g, 0, none⟩) N uc) u :: X)) w5 ∧ Below B w w5) := by
  have e : t.lp ++ addL row k purl ((L.take 0).map fun x => [x]) = t.lp := by simp [addL]
  rw [e]
  exact H5.out
 clear H5 HK5
 go_wp2
 go_loopw [10, 30] (fun s10 s30 wr => ∃ (m : Nat) (v10 : Value), m ≤ N ∧ s30 = .int .i64 (m : Int) ∧ v10 = s10 ∧ Hid (QcE B pb ⟨t.lp ++ addL row k purl ((L.take m).map fun x => [x]), t.bound, t.cross, t.rows, t.next⟩ (pxJ (.slice va N vc) L :: (stB cb ⟨7, purl, (a : Int), (b : Int)⟩ :: lpO lb row k (.slice none 0 0) purl :: pxJ (.slice (some ⟨g, 0, none⟩) N uc) u :: X)) wr ∧ Below B w wr)) (fun _ s30 _ => N - (intOf s30).toNat)
 case atStart => exact ⟨0, _, Nat.zero_le _, rfl, rfl, HX5.out⟩
 case round =>
  obtain ⟨m, v10, hm, rfl, rfl, HX⟩ := hrel
  clear HX5
  obtain ⟨W, hW⟩ : ∃ x : World, x = wr := ⟨_, rfl⟩
  rw [← hW] at HX ⊢
  clear hW
  have hN12 : N ≤ 12 := HN12.out.2.1
  by_cases hlt : m < N
  · have HLt : Hid (m + 1 ≤ N ∧ m < N) := by show _ ∧ _; omega
    have d1 : decide ((m : Int) < (N : Int)) = true := decide_eq_true (by omega)
    have d1' : decide (m < N) = true := decide_eq_true hlt
    have hmx : L[m]? = some (L[m]'(by have := HLn.out; omega)) := List.getElem?_eq_getElem _
    obtain ⟨x, hx⟩ : ∃ x, x = L[m]'(by have := HLn.out; omega) := ⟨_, rfl⟩
    rw [← hx] at hmx
    clear hx
    obtain ⟨vg, vc', ev, z0⟩ := pxJ_at (HX.out.1.mem List.mem_cons_self) hmx HLn.out
    cases ev
    have hBW : B ≤ W.heap.size := Nat.le_trans hB HX.out.2.size
    obtain ⟨b1, -⟩ := bxT_at (HX.out.1.mem (o := lpO lb row k (.slice none 0 0) purl) (by simp))
    have y0 := b1 0 _ rfl
    have y1 := b1 1 _ rfl
    have y2 := b1 2 _ rfl
    have y3 := b1 3 _ rfl
    obtain ⟨n1, n2⟩ := HX.out.1.lit hBW x
    obtain ⟨n3, n4⟩ := n1.one (Nat.le_trans hBW n2.size)
    simp only [World.size_alloc, List.length_singleton] at n3
    have hBW3 := Nat.le_trans (Nat.le_trans hBW n2.size) n4.size
    have hBx0 := (HX.out.2.trans n2).trans n4
    simp only [List.length_singleton] at hBW3 hBx0
    have hml : (addL row k purl ((L.take m).map fun x => [x])).length = m := by rw [addL_len, List.length_map, List.length_take, HLn.out]; omega
    have e5 : addL row k purl ((L.take m).map fun x => [x]) ++ addL row k purl [[x]] = addL row k purl ((L.take (m + 1)).map fun x => [x]) := by
     unfold addL
     rw [← List.map_append, List.take_add_one, hmx]
     simp
    have hHA := padd_any B pb ⟨t.lp ++ addL row k purl ((L.take m).map fun x => [x]), t.bound, t.cross, t.rows, t.next⟩ row k (.slice none 0 0) purl (some ⟨W.heap.size + 1, 0, none⟩) 1 1 [.slice (some ⟨W.heap.size, 0, none⟩) 1 1] [[x]] rfl rfl (by show (t.lp ++ addL row k purl ((L.take m).map fun x => [x])).length + 1 ≤ 100000; rw [List.length_append, hml]; have := HN12.out; omega) _ _ n3 (Nat.le_trans (Nat.le_trans hBW n2.size) n4.size)
    simp only [List.append_assoc, e5] at hHA
    have HA := Lib.hid hHA
    have HBx := Lib.hid hBx0
    clear hHA n1 n2 n3 n4 HX e5 hml b1 hmx hBW3 hBx0 hBW
    go_wp2_with (go_at_call 125; refine HA.out.mono ?_; rintro e w6 ⟨rfl, h6, hb6⟩)
    have HQ := Lib.hid (And.intro h6 (HBx.out.trans hb6))
    clear h6 hb6 HA
    go_roundw
    case rel => exact ⟨m + 1, _, HLt.out.1, by go_num, rfl, HQ.out⟩
    case measure => simp [intOf]; have := HLt.out; omega
  · have hmn : m = N := by omega
    have hX := HX.out
    rw [hmn] at hX
    have e5 : (L.take N).map (fun x => [x]) = cabP u a := by unfold cabP; rw [List.take_of_length_le (by have := HLn.out; omega), HLe.out]
    rw [e5] at hX
    have HX6 := Lib.hid hX
    clear hX HX e5 hmn
    obtain ⟨LP, hLP⟩ : ∃ LP, LP = t.lp ++ addL row k purl (cabP u a) := ⟨_, rfl⟩
    have HLP := Lib.hid hLP
    have HX7 : Hid (QcE B pb ⟨LP, t.bound, t.cross ++ crossN ⟨7, purl, (a : Int), (b : Int)⟩ F 0, t.rows, t.next⟩ (pxJ (.slice va N vc) L :: (stB cb ⟨7, purl, (a : Int), (b : Int)⟩ :: lpO lb row k (.slice none 0 0) purl :: pxJ (.slice (some ⟨g, 0, none⟩) N uc) u :: X)) W ∧ Below B w W) := by
     rw [show crossN ⟨7, purl, (a : Int), (b : Int)⟩ F 0 = [] from rfl, List.append_nil, hLP]
     exact HX6.out
    have HFl : Hid (F ≤ 50000) := by show _ ≤ _; rw [HFe.out]; exact hl
    clear HX6 hLP
    go_upto_region 7 with fail
    refine abs_world (Q := fun W => Code.wp _ _ _ _ W) (F := fun W => QcE B pb ⟨LP, t.bound, t.cross ++ crossN ⟨7, purl, (a : Int), (b : Int)⟩ F 0, t.rows, t.next⟩ (pxJ (.slice va N vc) L :: (stB cb ⟨7, purl, (a : Int), (b : Int)⟩ :: lpO lb row k (.slice none 0 0) purl :: pxJ (.slice (some ⟨g, 0, none⟩) N uc) u :: X)) W ∧ Below B w W) _ HX7.out ?_
    clear HX7 hlt hm
    clear W
    rintro W hX7
    obtain ⟨x0, x1, x2, x3⟩ := stB_at (hX7.1.mem (List.mem_cons_of_mem _ List.mem_cons_self))
    have HX8 := Lib.hid hX7
    clear hX7
    go_wp2
    go_loopw [11, 12, 13, 43] (fun s11 s12 s13 s43 wr => ∃ (i : Nat) (v11 v12 v13 : Value), i ≤ a ∧ s43 = .int .i64 (i : Int) ∧ v11 = s11 ∧ v12 = s12 ∧ v13 = s13 ∧ Hid (QcE B pb ⟨LP, t.bound, t.cross ++ crossN ⟨7, purl, (a : Int), (b : Int)⟩ F i, t.rows, t.next⟩ (pxJ (.slice va N vc) L :: (stB cb ⟨7, purl, (a : Int), (b : Int)⟩ :: lpO lb row k (.slice none 0 0) purl :: pxJ (.slice (some ⟨g, 0, none⟩) N uc) u :: X)) wr ∧ Below B w wr)) (fun _ _ _ s43 _ => a - (intOf s43).toNat)
    case atStart => exact ⟨0, _, _, _, Nat.zero_le _, rfl, rfl, rfl, rfl, HX8.out⟩
    case round =>
     obtain ⟨i, v11, v12, v13, hi, rfl, rfl, rfl, rfl, HX9⟩ := hrel
     clear HX8 x0 x1 x2 x3
     obtain ⟨W2, hW2⟩ : ∃ x : World, x = wr := ⟨_, rfl⟩
     rw [← hW2] at HX9 ⊢
     clear hW2
     obtain ⟨x0, x1, x2, x3⟩ := stB_at (HX9.out.1.mem (List.mem_cons_of_mem _ List.mem_cons_self))
     have ha6 : a ≤ 6 := ha.2
     by_cases hia : i < a
     case neg =>
      have d1 : decide ((i : Int) < (a : Int)) = false := decide_eq_false (by omega)
      have d1' : decide (i < a) = false := decide_eq_false hia
      have hie : i = a := by omega
      have hX := HX9.out
      rw [hie, HLP.out, HFe.out] at hX
      have HQ := Lib.hid hX
      clear hX HX9 hie
      go_wp2
      refine bodyPost_end (results_none rfl _ _ _) rfl ?_
      exact ⟨rfl, HQ.out.1.lift ((List.sublist_cons_self _ _).trans ((List.sublist_cons_self _ _).trans (List.sublist_cons_self _ _))), HQ.out.2⟩
     case pos =>
      have d1 : decide ((i : Int) < (a : Int)) = true := decide_eq_true (by omega)
      have d1' : decide (i < a) = true := decide_eq_true hia
      have HX10 : Hid (QcE B pb ⟨LP, t.bound, t.cross ++ crossN ⟨7, purl, (a : Int), (b : Int)⟩ F i ++ crossI ⟨7, purl, (a : Int), (b : Int)⟩ F i 0, t.rows, t.next⟩ (pxJ (.slice va N vc) L :: (stB cb ⟨7, purl, (a : Int), (b : Int)⟩ :: lpO lb row k (.slice none 0 0) purl :: pxJ (.slice (some ⟨g, 0, none⟩) N uc) u :: X)) W2 ∧ Below B w W2) := by
       rw [show crossI ⟨7, purl, (a : Int), (b : Int)⟩ F i 0 = [] from rfl, List.append_nil]
       exact HX9.out
      clear HX9
      go_wp2
      go_loopw [12, 13, 48] (fun s12 s13 s48 wr => ∃ (m : Nat) (v12 v13 : Value), m ≤ b ∧ s48 = .int .i64 (m : Int) ∧ v12 = s12 ∧ v13 = s13 ∧ Hid (QcE B pb ⟨LP, t.bound, t.cross ++ crossN ⟨7, purl, (a : Int), (b : Int)⟩ F i ++ crossI ⟨7, purl, (a : Int), (b : Int)⟩ F i m, t.rows, t.next⟩ (pxJ (.slice va N vc) L :: (stB cb ⟨7, purl, (a : Int), (b : Int)⟩ :: lpO lb row k (.slice none 0 0) purl :: pxJ (.slice (some ⟨g, 0, none⟩) N uc) u :: X)) wr ∧ Below B w wr)) (fun _ _ s48 _ => b - (intOf s48).toNat)
      case atStart => exact ⟨0, _, _, Nat.zero_le _, rfl, rfl, rfl, HX10.out⟩
      case round =>
       obtain ⟨m, v12', v13', hm, rfl, rfl, rfl, HX11⟩ := hrel
       clear HX10 x0 x1 x2 x3 d1 d1'
       obtain ⟨W5, hW5⟩ : ∃ x : World, x = wr := ⟨_, rfl⟩
       rw [← hW5] at HX11 ⊢
       clear hW5
       obtain ⟨x0, x1, x2, x3⟩ := stB_at (HX11.out.1.mem (List.mem_cons_of_mem _ List.mem_cons_self))
       have hb6 : b ≤ 6 := hb.2
       by_cases hmb : m < b
       case neg =>
        have d1 : decide ((m : Int) < (b : Int)) = false := decide_eq_false (by omega)
        have d1' : decide (m < b) = false := decide_eq_false hmb
        have hme : m = b := by omega
        have HQ : Hid (QcE B pb ⟨LP, t.bound, t.cross ++ crossN ⟨7, purl, (a : Int), (b : Int)⟩ F (i + 1), t.rows, t.next⟩ (pxJ (.slice va N vc) L :: (stB cb ⟨7, purl, (a : Int), (b : Int)⟩ :: lpO lb row k (.slice none 0 0) purl :: pxJ (.slice (some ⟨g, 0, none⟩) N uc) u :: X)) W5 ∧ Below B w W5) := by
         rw [crossN_next, show (⟨7, purl, (a : Int), (b : Int)⟩ : Stc).b.toNat = b from rfl, ← List.append_assoc]
         have e := HX11.out
         rw [hme] at e
         exact e
        have HIa : Hid (i + 1 ≤ a ∧ i < a) := by show _ ∧ _; omega
        clear HX11 hme
        go_wp2
        go_roundw
        case rel => exact ⟨i + 1, _, _, _, HIa.out.1, by go_num, rfl, rfl, rfl, HQ.out⟩
        case measure => simp [intOf]; have := HIa.out; omega
       case pos =>
        have d1 : decide ((m : Int) < (b : Int)) = true := decide_eq_true (by omega)
        have d1' : decide (m < b) = true := decide_eq_true hmb
        have hF5 : F ≤ 50000 := HFl.out
        obtain ⟨x, hx⟩ : ∃ x : Int, x = ((F + b + i : Nat) : Int) := ⟨_, rfl⟩
        obtain ⟨z, hz⟩ : ∃ z : Int, z = ((F + m : Nat) : Int) := ⟨_, rfl⟩
        obtain ⟨fb, hfb⟩ : ∃ z : Int, z = (F : Int) + (b : Int) := ⟨_, rfl⟩
        have hw1 : IntKind.i64.wrap ((F : Int) + (b : Int)) = fb := by rw [hfb]; exact IntWalk.i64_in _ (by omega)
        have hw2 : IntKind.i64.wrap (fb + (i : Int)) = x := by rw [hfb, hx, Int.natCast_add, Int.natCast_add]; exact IntWalk.i64_in _ (by omega)
        have hw3 : IntKind.i64.wrap ((F : Int) + (m : Int)) = z := by rw [hz, Int.natCast_add]; exact IntWalk.i64_in _ (by omega)
        have hcp : crossP ⟨7, purl, (a : Int), (b : Int)⟩ F i m = (z, x) := by
         rw [hx, hz]
         unfold crossP
         simp
        have hcl8 : (t.cross ++ crossN ⟨7, purl, (a : Int), (b : Int)⟩ F i ++ crossI ⟨7, purl, (a : Int), (b : Int)⟩ F i m).length ≤ 100000 := by
         rw [List.length_append, List.length_append, crossN_len, crossI_len]
         have h1 : (⟨7, purl, (a : Int), (b : Int)⟩ : Stc).b.toNat = b := rfl
         rw [h1]
         have : i * b ≤ 6 * 6 := Nat.mul_le_mul (by omega) (by omega)
         omega
        have hcx := crossI_next ⟨7, purl, (a : Int), (b : Int)⟩ F i m
        rw [hcp] at hcx
        have HCx := Lib.hid (And.intro hcl8 hcx)
        have hB5 : B ≤ W5.heap.size := Nat.le_trans hB HX11.out.2.size
        have hal5 := al_t W5 (.cells #[.int .i64 x, .int .i64 z] 48)
        obtain ⟨xb, hxb⟩ : ∃ xb, xb = W5.heap.size := ⟨_, rfl⟩
        have HN5 := Lib.hid (And.intro (HX11.out.1.add hal5 hB5 (bxT_new W5 48 [.int .i64 x, .int .i64 z])) (HX11.out.2.trans (hal5.mono hB5)))
        rw [← hxb] at HN5
        clear HX11 hal5 hB5 hcl8 hcx hcp hx hz hfb
        obtain ⟨CR, hCR⟩ : ∃ CR, CR = t.cross ++ crossN ⟨7, purl, (a : Int), (b : Int)⟩ F i ++ crossI ⟨7, purl, (a : Int), (b : Int)⟩ F i m := ⟨_, rfl⟩
        rw [← hCR] at HN5 HCx
        go_upto_region 14 with fail
        refine abs_world (Q := fun W => Code.wp _ _ _ _ W) (F := fun W => QcE B pb ⟨LP, t.bound, CR, t.rows, t.next⟩ (bxT 48 xb [.int .i64 x, .int .i64 z] :: pxJ (.slice va N vc) L :: (stB cb ⟨7, purl, (a : Int), (b : Int)⟩ :: lpO lb row k (.slice none 0 0) purl :: pxJ (.slice (some ⟨g, 0, none⟩) N uc) u :: X)) W ∧ Below B w W) _ HN5.out ?_
        rw [← hxb]
        clear HN5 hxb x0 x1 x2 x3
        rintro W6 ⟨h6, hb6⟩
        obtain ⟨x0, x1, x2, x3⟩ := stB_at (h6.mem (List.mem_cons_of_mem _ (List.mem_cons_of_mem _ List.mem_cons_self)))
        have HR := Lib.hid (h6.revP (Nat.le_trans hB hb6.size))
        have HB6 := Lib.hid hb6
        clear h6 hb6
        go_upto_region 16 with (go_at_call 126; refine HR.out.mono ?_; rintro e W7 ⟨rfl, h7, hb7'⟩)
        have hb7 := HB6.out.trans hb7'
        clear HR HB6 hb7' x0 x1 x2 x3
        obtain ⟨p1', -⟩ := bxT_at (h7.mem List.mem_cons_self)
        have p0 := p1' 0 _ rfl
        have p1 := p1' 1 _ rfl
        have hB7 : B ≤ W7.heap.size := Nat.le_trans hB hb7.size
        have hbd : Below W7.heap.size W7 W7.drew := Below.drew (Below.refl _ _)
        obtain ⟨vL, vB, vC, vR, vs, hP⟩ := h7.to hbd
        obtain ⟨a1, c1, rfl⟩ := hP.forms.2.2.1
        have y3 : W7.cell? ⟨pb, 3, none⟩ = some (.slice a1 CR.length c1) := hP.cells.2.2.2.1
        have y3a := cell_al y3 (prB (z, x))
        obtain ⟨A', c', w', hr9, hf, y3', hQ, hb2⟩ := hP.pushX hB7 HCx.out.1 (z, x)
        have hr : (Builtin.append_ #[23, 23] 23 #[.slice a1 CR.length c1, .slice (some ⟨W7.heap.size, 0, none⟩) 1 1]).run Tryz.prog ((W7.alloc (prB (z, x))).drew) = .ok (.slice A' (CR.length + 1) c') w' := hr9
        have HQ : Hid (QcE B pb ⟨LP, t.bound, t.cross ++ crossN ⟨7, purl, (a : Int), (b : Int)⟩ F i ++ crossI ⟨7, purl, (a : Int), (b : Int)⟩ F i (m + 1), t.rows, t.next⟩ (pxJ (.slice va N vc) L :: (stB cb ⟨7, purl, (a : Int), (b : Int)⟩ :: lpO lb row k (.slice none 0 0) purl :: pxJ (.slice (some ⟨g, 0, none⟩) N uc) u :: X)) (w'.setCell ⟨pb, 3, none⟩ (.slice A' (CR.length + 1) c')) ∧ Below B w (w'.setCell ⟨pb, 3, none⟩ (.slice A' (CR.length + 1) c'))) := by
         refine ⟨?_, hb7.trans ((hbd.mono hB7).trans hb2)⟩
         rw [HCx.out.2, ← List.append_assoc, ← hCR]
         exact QcE.lift ⟨_, _, _, _, _, hQ⟩ (List.sublist_cons_self _ _)
        have HMb : Hid (m + 1 ≤ b ∧ m < b) := by show _ ∧ _; omega
        have hf3 := hf 3
        obtain ⟨cn, hcn⟩ : ∃ cn, cn = CR.length := ⟨_, rfl⟩
        simp only [← hcn] at hr y3 y3a y3' HQ ⊢
        clear HCx hf hQ hb2 hP h7 hb7 p1' hcn hB7 hr9 hbd hCR
        go_region_law (refine step_append_run (by rfl) _ _ _ _ (by rfl) _ _ (by rfl) (by rfl) hr ?_)
        all_goals
         go_wp2
         go_roundw
         case rel => exact ⟨m + 1, _, _, HMb.out.1, by go_num, rfl, rfl, HQ.out⟩
         case measure => simp [intOf]; have := HMb.out; omega
end Go.Proofs.YtflpikickbellaaGreat
