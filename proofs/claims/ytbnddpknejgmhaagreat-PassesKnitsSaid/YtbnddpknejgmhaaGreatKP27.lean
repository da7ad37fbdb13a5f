/- Layer 27: the reference's cell. -/
import Derived.Test.YtbnddpknejgmhaaGreatKP24
import Derived.Deep.RegionHeld3
import Derived.Deep.DeepCutAuto
namespace Go.Proofs.YtbnddpknejgmhaaGreat
open Go.RowKit Go.Shelf Go.Sort
set_option maxRecDepth 100000

def stB (sb : Nat) (s : Stc) : Own := bxT 51 sb s.cells
/-- What cell leaves. -/
def ClPost (B pb : Nat) (t : Pw) (X : List Own) (w : World) (e : Ending) (w' : World) : Prop := e = .returned (.tuple #[]) ∧ PcE B pb t X w' ∧ Below B w w'
theorem PcE.nxt {B pb : Nat} {t : Pw} {X : List Own} {W : World} (n : Nat) (h : PcE B pb t X W) : PcE B pb ⟨t.lp, t.bound, t.cross, t.rows, n⟩ X W := by
  obtain ⟨vL, vB, vC, vR, vs, h⟩ := h
  exact ⟨vL, vB, vC, vR, vs, h.own, h.vl⟩
theorem ClPost.mk' {B pb n : Nat} {t t' : Pw} {o : Own} {X : List Own} {w w' : World} (he : t = ⟨t'.lp, t'.bound, t'.cross, t'.rows, n⟩) (h : PcE B pb t' (o :: X) w') (hb : Below B w w') : ClPost B pb t X w (.returned (.tuple #[])) w' := by
  subst he
  exact ⟨rfl, (h.nxt n).lift (List.sublist_cons_self _ _), hb⟩
theorem stB_at {w : World} {B sb : Nat} {s : Stc} (h : (stB sb s).lies w B) : w.cell? ⟨sb, 0, none⟩ = some (.int .u8 s.kind) ∧ w.cell? ⟨sb, 1, none⟩ = some (.bool s.purl) ∧ w.cell? ⟨sb, 2, none⟩ = some (.int .i64 s.a) ∧ w.cell? ⟨sb, 3, none⟩ = some (.int .i64 s.b) := by
  obtain ⟨h1, -⟩ := bxT_at h
  exact ⟨h1 0 _ rfl, h1 1 _ rfl, h1 2 _ rfl, h1 3 _ rfl⟩
theorem PcE.cells {B pb : Nat} {t : Pw} {X : List Own} {W : World} (h : PcE B pb t X W) : ∃ a c, W.cell? ⟨pb, 0, none⟩ = some (.slice a t.lp.length c) := by
  obtain ⟨vL, vB, vC, vR, vs, h⟩ := h
  obtain ⟨a, c, rfl⟩ := h.forms.1
  exact ⟨a, c, h.cells.1⟩
/-- The loops of a cable, one by one. -/
def cabL (row k : Int) (purl : Bool) (next a b n : Nat) : List Lp := (List.range n).map fun q => ⟨row, k, [((next + (a + q) % (a + b) : Nat) : Int)], purl⟩
theorem cabL_next (row k : Int) (purl : Bool) (next a b n : Nat) : cabL row k purl next a b (n + 1) = cabL row k purl next a b n ++ [⟨row, k, [((next + (a + n) % (a + b) : Nat) : Int)], purl⟩] := by unfold cabL; rw [List.range_succ, List.map_append]; rfl
theorem cabL_len (row k : Int) (purl : Bool) (next a b n : Nat) : (cabL row k purl next a b n).length = n := by unfold cabL; rw [List.length_map, List.length_range]
theorem newsL_cab {row k : Int} {s : Stc} {next a b : Nat} {lp : List Lp} (hk : s.kind = 6 ∨ s.kind = 7) (ha : s.a = (a : Int)) (_hb : s.b = (b : Int)) : newsL row k s (usedN next (a + b)) lp = cabL row k s.purl next a b (a + b) := by
  unfold newsL cabL
  rw [if_neg (by omega), if_neg (by omega), if_pos hk, ha, Int.toNat_natCast]
  apply List.ext_getElem (by simp [usedN_len]; omega)
  intro q h1 h2
  simp only [List.getElem_map, List.getElem_range]
  rw [List.length_map, List.length_range] at h2
  have e : (List.drop a (usedN next (a + b)) ++ List.take a (usedN next (a + b)))[q]? = some ((next + (a + q) % (a + b) : Nat) : Int) := by
    by_cases hq : q < b
    · rw [List.getElem?_append_left (by rw [List.length_drop, usedN_len]; omega), List.getElem?_drop, usedN_at (by omega), Nat.mod_eq_of_lt (by omega)]
    · rw [List.getElem?_append_right (by rw [List.length_drop, usedN_len]; omega), List.length_drop, usedN_len, List.getElem?_take, if_pos (by omega), usedN_at (by omega)]
      congr 3
      rw [show a + q = (q - b) + (a + b) by omega, Nat.add_mod_right, Nat.mod_eq_of_lt (by omega)]
      omega
  obtain ⟨h3, h4⟩ := List.getElem?_eq_some_iff.1 e
  rw [h4]
/-- A load under another name. -/
def ldOw (t : TypeId) (x : Operand) : Op := Op.load t x
theorem PcE.nil {B pb : Nat} {t : Pw} {X : List Own} {W : World} (h : PcE B pb t X W) : PcE B pb t (pxJ (.slice none 0 0) [] :: X) W := by
  obtain ⟨vL, vB, vC, vR, vs, h⟩ := h
  exact ⟨vL, vB, vC, vR, vs, h.nil⟩
/-- A literal of one number beside the piece. -/
theorem PcE.lit {B pb : Nat} {t : Pw} {X : List Own} {W : World} (h : PcE B pb t X W) (hB : B ≤ W.heap.size) (x : Int) : PcE B pb t (pxJ (.slice (some ⟨W.heap.size, 0, none⟩) [x].length 1) [x] :: X) (W.alloc (.cells #[.int .i64 x] 3)) ∧ Below B W (W.alloc (.cells #[.int .i64 x] 3)) := by
  obtain ⟨vL, vB, vC, vR, vs, h⟩ := h
  have hal := al_t W (.cells #[.int .i64 x] 3)
  exact ⟨⟨vL, vB, vC, vR, vs, h.add hal hB (lit_own W [x] (by simp))⟩, hal.mono hB⟩
set_option maxHeartbeats 4000000 in
theorem rcell1 (B pb : Nat) (t : Pw) (row k : Int) (s : Stc) (hs : s.ok = true) (hk : s.kind = 1) (uv : Value) (X : List Own) (hat : t.next + (usesS s).toNat ≤ t.lp.length) (hl : t.lp.length ≤ 50000) (w : World) (h : PcE B pb t (pxJ uv (usedN t.next (usesS s).toNat) :: X) w) (hB : B ≤ w.heap.size) :
    Calls Tryz.prog 37 #[.pointer (some ⟨pb, 0, none⟩), .int .i64 row, .int .i64 k, s.val, uv] w fun e w' => ClPost B pb (stepC row k s t) (pxJ uv (usedN t.next (usesS s).toNat) :: X) w e w' := by
  have hK := stc_k hs
  obtain ⟨kind, purl, sa, sb⟩ := s
  obtain rfl : kind = 1 := hk
  have hal := al_t w (.cells #[.int .u8 1, .bool purl, .int .i64 sa, .int .i64 sb] 51)
  have HX : Hid (PcE B pb t (stB w.heap.size ⟨1, purl, sa, sb⟩ :: pxJ uv (usedN t.next (usesS ⟨1, purl, sa, sb⟩).toNat) :: X) (w.alloc (.cells #[.int .u8 1, .bool purl, .int .i64 sa, .int .i64 sb] 51)) ∧ Below B w (w.alloc (.cells #[.int .u8 1, .bool purl, .int .i64 sa, .int .i64 sb] 51))) := by
    obtain ⟨vL, vB, vC, vR, vs, h⟩ := h
    exact ⟨⟨vL, vB, vC, vR, vs, h.add hal hB (bxT_new w _ _)⟩, hal.mono hB⟩
  obtain ⟨a0, c0, g0⟩ := HX.out.1.cells
  obtain ⟨x0, -⟩ := stB_at (HX.out.1.mem List.mem_cons_self)
  obtain ⟨cb, hcb⟩ : ∃ cb, cb = w.heap.size := ⟨_, rfl⟩
  obtain ⟨n0, hn0⟩ : ∃ n0, n0 = t.lp.length := ⟨_, rfl⟩
  rw [← hn0] at g0
  clear h hal
  show Calls Tryz.prog 37 #[_, _, _, .agg #[.int .u8 1, .bool purl, .int .i64 sa, .int .i64 sb], _] w _
  go_enter Tryz.func37, Tryz.ntmps37
  go_upto_region 3 with fail
  refine abs_world (Q := fun W => Code.wp _ _ _ _ W) (F := fun W => PcE B pb t (stB w.heap.size ⟨1, purl, sa, sb⟩ :: pxJ uv (usedN t.next (usesS ⟨1, purl, sa, sb⟩).toNat) :: X) W ∧ Below B w W) _ HX.out ?_
  clear HX g0 x0
  rw [← hcb]
  rintro W1 ⟨h1, hb1⟩
  have hB1 : B ≤ W1.heap.size := Nat.le_trans hB hb1.size
  have HP1 := Lib.hid h1
  have HB1 := Lib.hid hb1
  clear hb1 hcb
  have hu : (usesS ⟨1, purl, sa, sb⟩).toNat = 1 := by rw [hK.uses]; rfl
  have HSt : Hid (stepC row k ⟨1, purl, sa, sb⟩ t = ⟨t.lp ++ [⟨row, k, [(t.next : Int)], purl⟩], t.bound, t.cross, t.rows, t.next + 1⟩) := by
    show _ = _
    unfold stepC newsL boundL crossL
    rw [hu]
    simp [usedN]
  rw [hu] at h1 HP1
  obtain ⟨ug, uc, rfl, u0⟩ := pxJ_at (h1.mem (List.mem_cons_of_mem _ List.mem_cons_self)) (usedN_at (a := t.next) (n := 1) (i := 0) (by omega)) (usedN_len _ _)
  obtain ⟨x0, x1, x2, x3⟩ := stB_at (h1.mem List.mem_cons_self)
  simp only [Nat.add_zero] at u0
  have hlit := h1.lit hB1 (t.next : Int)
  have hdr : Below (W1.alloc (.cells #[.int .i64 (t.next : Int)] 3)).heap.size (W1.alloc (.cells #[.int .i64 (t.next : Int)] 3)) (W1.alloc (.cells #[.int .i64 (t.next : Int)] 3)).drew := Below.drew (Below.refl _ _)
  have hBd : Below B W1 (W1.alloc (.cells #[.int .i64 (t.next : Int)] 3)).drew := hlit.2.trans (hdr.mono (Nat.le_trans hB1 hlit.2.size))
  have HC := Lib.hid (rput_any B pb t row k (some ⟨W1.heap.size, 0, none⟩) 1 1 [(t.next : Int)] rfl purl _ _ (hlit.1.to hdr) (Nat.le_trans hB1 hBd.size) (by omega))
  have HBd := Lib.hid hBd
  have lu := lt_of_cell u0
  have lx := lt_of_cell x1
  have hal1 := al_t W1 (.cells #[.int .i64 (t.next : Int)] 3)
  have HKp : Hid (∀ W', Below W1.heap.size W1 W' → W'.cell? ⟨ug, 0, none⟩ = some (.int .i64 (t.next : Int)) ∧ W'.cell? ⟨cb, 1, none⟩ = some (.bool purl)) := fun W' hb => ⟨(bcell hb lu _).trans u0, (bcell hb lx _).trans x1⟩
  have HKq : Hid (∀ t' W', PcE B pb t' (stB cb ⟨1, purl, sa, sb⟩ :: pxJ (.slice (some ⟨ug, 0, none⟩) 1 uc) (usedN t.next 1) :: X) W' → W'.cell? ⟨ug, 0, none⟩ = some (.int .i64 (t.next : Int)) ∧ W'.cell? ⟨cb, 1, none⟩ = some (.bool purl)) := fun t' W' h => ⟨pxJ_cell (h.mem (List.mem_cons_of_mem _ List.mem_cons_self)) (usedN_at (a := t.next) (n := 1) (i := 0) (by omega)) (usedN_len _ _), (stB_at (h.mem List.mem_cons_self)).2.1⟩
  have HK1 := Lib.hid (HKp.out _ (Below.drew (Below.refl _ _)))
  have HK2 := Lib.hid (HKp.out _ (Below.drew hal1))
  clear hlit hdr hBd h1 hal1 lu lx x0 x1 x2 x3 u0
  go_upto_region 4 with fail
  go_region_held3 (fun W' => W'.cell? ⟨ug, 0, none⟩ = some (.int .i64 (t.next : Int)) ∧ W'.cell? ⟨cb, 1, none⟩ = some (.bool purl))
    (first | (with_reducible exact HK1.out) | (with_reducible exact HK2.out) | exact HKq.out _ _ (by assumption) | fail)
    (first | (go_at_call 35; refine HC.out.mono ?_; rintro e w2 ⟨rfl, hp2, hb2⟩))
  have HQ := Lib.hid (And.intro hp2 (HB1.out.trans (HBd.out.trans hb2)))
  clear hp2 hb2
  simp only [Exit.inBlock]
  refine bodyPost_end (results_none rfl _ _ _) rfl ?_
  rw [hu]
  exact ClPost.mk' HSt.out HQ.out.1 HQ.out.2
set_option maxHeartbeats 4000000 in
theorem rcell2 (B pb : Nat) (t : Pw) (row k : Int) (s : Stc) (hs : s.ok = true) (hk : s.kind = 2) (uv : Value) (X : List Own) (hat : t.next + (usesS s).toNat ≤ t.lp.length) (hl : t.lp.length ≤ 50000) (w : World) (h : PcE B pb t (pxJ uv (usedN t.next (usesS s).toNat) :: X) w) (hB : B ≤ w.heap.size) :
    Calls Tryz.prog 37 #[.pointer (some ⟨pb, 0, none⟩), .int .i64 row, .int .i64 k, s.val, uv] w fun e w' => ClPost B pb (stepC row k s t) (pxJ uv (usedN t.next (usesS s).toNat) :: X) w e w' := by
  have hK := stc_k hs
  obtain ⟨kind, purl, sa, sb⟩ := s
  obtain rfl : kind = 2 := hk
  have hal := al_t w (.cells #[.int .u8 2, .bool purl, .int .i64 sa, .int .i64 sb] 51)
  have HX : Hid (PcE B pb t (stB w.heap.size ⟨2, purl, sa, sb⟩ :: pxJ uv (usedN t.next (usesS ⟨2, purl, sa, sb⟩).toNat) :: X) (w.alloc (.cells #[.int .u8 2, .bool purl, .int .i64 sa, .int .i64 sb] 51)) ∧ Below B w (w.alloc (.cells #[.int .u8 2, .bool purl, .int .i64 sa, .int .i64 sb] 51))) := by
    obtain ⟨vL, vB, vC, vR, vs, h⟩ := h
    exact ⟨⟨vL, vB, vC, vR, vs, h.add hal hB (bxT_new w _ _)⟩, hal.mono hB⟩
  obtain ⟨a0, c0, g0⟩ := HX.out.1.cells
  obtain ⟨x0, -⟩ := stB_at (HX.out.1.mem List.mem_cons_self)
  obtain ⟨cb, hcb⟩ : ∃ cb, cb = w.heap.size := ⟨_, rfl⟩
  obtain ⟨n0, hn0⟩ : ∃ n0, n0 = t.lp.length := ⟨_, rfl⟩
  rw [← hn0] at g0
  clear h hal
  show Calls Tryz.prog 37 #[_, _, _, .agg #[.int .u8 2, .bool purl, .int .i64 sa, .int .i64 sb], _] w _
  go_enter Tryz.func37, Tryz.ntmps37
  go_upto_region 3 with fail
  refine abs_world (Q := fun W => Code.wp _ _ _ _ W) (F := fun W => PcE B pb t (stB w.heap.size ⟨2, purl, sa, sb⟩ :: pxJ uv (usedN t.next (usesS ⟨2, purl, sa, sb⟩).toNat) :: X) W ∧ Below B w W) _ HX.out ?_
  clear HX g0 x0
  rw [← hcb]
  rintro W1 ⟨h1, hb1⟩
  have hB1 : B ≤ W1.heap.size := Nat.le_trans hB hb1.size
  have HP1 := Lib.hid h1
  have HB1 := Lib.hid hb1
  clear hb1 hcb
  have hu : (usesS ⟨2, purl, sa, sb⟩).toNat = 0 := by rw [hK.uses]; rfl
  obtain rfl : purl = false := hK.over (Or.inl rfl)
  have HSt : Hid (stepC row k ⟨2, false, sa, sb⟩ t = ⟨t.lp ++ [⟨row, k, [], false⟩], t.bound, t.cross, t.rows, t.next⟩) := by
    show _ = _
    unfold stepC newsL boundL crossL
    rw [hu]
    simp [usedN]
  have HC := Lib.hid (rput_any B pb t row k none 0 0 [] rfl false _ _ h1.nil hB1 (by omega))
  clear h1
  go_wp2_with ((go_at_call 35; refine HC.out.mono ?_; rintro e w2 ⟨rfl, hp2, hb2⟩))
  have HQ := Lib.hid (And.intro hp2 (HB1.out.trans hb2))
  clear hp2 hb2
  refine bodyPost_end (results_none rfl _ _ _) rfl ?_
  exact ClPost.mk' HSt.out HQ.out.1 HQ.out.2
set_option maxHeartbeats 4000000 in
theorem rcell3 (B pb : Nat) (t : Pw) (row k : Int) (s : Stc) (hs : s.ok = true) (hk : s.kind = 3) (uv : Value) (X : List Own) (hat : t.next + (usesS s).toNat ≤ t.lp.length) (hl : t.lp.length ≤ 50000) (w : World) (h : PcE B pb t (pxJ uv (usedN t.next (usesS s).toNat) :: X) w) (hB : B ≤ w.heap.size) :
    Calls Tryz.prog 37 #[.pointer (some ⟨pb, 0, none⟩), .int .i64 row, .int .i64 k, s.val, uv] w fun e w' => ClPost B pb (stepC row k s t) (pxJ uv (usedN t.next (usesS s).toNat) :: X) w e w' := by
  have hK := stc_k hs
  obtain ⟨kind, purl, sa, sb⟩ := s
  obtain rfl : kind = 3 := hk
  have hal := al_t w (.cells #[.int .u8 3, .bool purl, .int .i64 sa, .int .i64 sb] 51)
  have HX : Hid (PcE B pb t (stB w.heap.size ⟨3, purl, sa, sb⟩ :: pxJ uv (usedN t.next (usesS ⟨3, purl, sa, sb⟩).toNat) :: X) (w.alloc (.cells #[.int .u8 3, .bool purl, .int .i64 sa, .int .i64 sb] 51)) ∧ Below B w (w.alloc (.cells #[.int .u8 3, .bool purl, .int .i64 sa, .int .i64 sb] 51))) := by
    obtain ⟨vL, vB, vC, vR, vs, h⟩ := h
    exact ⟨⟨vL, vB, vC, vR, vs, h.add hal hB (bxT_new w _ _)⟩, hal.mono hB⟩
  obtain ⟨a0, c0, g0⟩ := HX.out.1.cells
  obtain ⟨x0, -⟩ := stB_at (HX.out.1.mem List.mem_cons_self)
  obtain ⟨cb, hcb⟩ : ∃ cb, cb = w.heap.size := ⟨_, rfl⟩
  obtain ⟨n0, hn0⟩ : ∃ n0, n0 = t.lp.length := ⟨_, rfl⟩
  rw [← hn0] at g0
  clear h hal
  show Calls Tryz.prog 37 #[_, _, _, .agg #[.int .u8 3, .bool purl, .int .i64 sa, .int .i64 sb], _] w _
  go_enter Tryz.func37, Tryz.ntmps37
  go_upto_region 3 with fail
  refine abs_world (Q := fun W => Code.wp _ _ _ _ W) (F := fun W => PcE B pb t (stB w.heap.size ⟨3, purl, sa, sb⟩ :: pxJ uv (usedN t.next (usesS ⟨3, purl, sa, sb⟩).toNat) :: X) W ∧ Below B w W) _ HX.out ?_
  clear HX g0 x0
  rw [← hcb]
  rintro W1 ⟨h1, hb1⟩
  have hB1 : B ≤ W1.heap.size := Nat.le_trans hB hb1.size
  have HP1 := Lib.hid h1
  have HB1 := Lib.hid hb1
  clear hb1 hcb
  obtain ⟨a1, a2, -⟩ := hK.few (by simp)
  obtain ⟨n, rfl⟩ : ∃ n : Nat, sa = (n : Int) := ⟨sa.toNat, by simp only at a1; omega⟩
  have hn1 : 1 ≤ n := by simp only at a1; omega
  have hn4 : n ≤ 4 := by simp only at a2; omega
  have hu : (usesS ⟨3, purl, (n : Int), sb⟩).toNat = n := by rw [hK.uses]; simp
  rw [hu] at h1 HP1 hat
  have HSt : Hid (stepC row k ⟨3, purl, (n : Int), sb⟩ t = ⟨t.lp ++ [⟨row, k, usedN t.next n, purl⟩], t.bound, t.cross, t.rows, t.next + n⟩) := by
    show _ = _
    unfold stepC newsL boundL crossL
    rw [hu]
    simp
  obtain ⟨ug, uc, rfl, -⟩ := pxJ_at (h1.mem (List.mem_cons_of_mem _ List.mem_cons_self)) (usedN_at (a := t.next) (n := n) (i := 0) (by omega)) (usedN_len _ _)
  have HX1 : Hid (PcE B pb t (pxJ (.slice none 0 0) ((usedN t.next n).take 0) :: stB cb ⟨3, purl, (n : Int), sb⟩ :: pxJ (.slice (some ⟨ug, 0, none⟩) n uc) (usedN t.next n) :: X) W1) := HP1.out.nil
  clear h1 HP1 a1 a2
  go_wp2
  go_loopw [12, 13] (fun s12 s13 wr => ∃ i : Nat, s13 = .int .i64 (i : Int) ∧ i ≤ n ∧ Hid (PcE B pb t (pxJ s12 ((usedN t.next n).take i) :: stB cb ⟨3, purl, (n : Int), sb⟩ :: pxJ (.slice (some ⟨ug, 0, none⟩) n uc) (usedN t.next n) :: X) wr) ∧ Hid (Below B w wr)) (fun _ s13 _ => n - (intOf s13).toNat)
  case atStart => exact ⟨0, rfl, Nat.zero_le _, HX1.out, HB1.out⟩
  case round =>
    obtain ⟨i, rfl, hi, HX2, HB2⟩ := hrel
    clear HX1 HB1
    obtain ⟨W2, hW2⟩ : ∃ x : World, x = wr := ⟨_, rfl⟩
    rw [← hW2] at HX2 HB2 ⊢
    clear hW2
    have hB2 : B ≤ W2.heap.size := Nat.le_trans hB HB2.out.size
    have hlt0 : ((usedN t.next n).take i).length = i := by rw [List.length_take]; simp [usedN_len]; omega
    obtain ⟨a2, c2, rfl⟩ := pxJ_is (HX2.out.mem List.mem_cons_self) hlt0
    obtain ⟨x0, x1, x2, x3⟩ := stB_at (HX2.out.mem (List.mem_cons_of_mem _ List.mem_cons_self))
    by_cases hlt : i < n
    case pos =>
      have d1 : decide ((i : Int) < (n : Int)) = true := decide_eq_true (by omega)
      have d1' : decide (i < n) = true := decide_eq_true hlt
      have HLi : Hid ((usedN t.next n)[i]? = some ((t.next + i : Nat) : Int)) := usedN_at hlt
      have u0 := pxJ_cell (HX2.out.mem (List.mem_cons_of_mem _ (List.mem_cons_of_mem _ List.mem_cons_self))) (usedN_at (a := t.next) hlt) (usedN_len _ _)
      obtain ⟨y, hy⟩ : ∃ y : Int, y = ((t.next + i : Nat) : Int) := ⟨_, rfl⟩
      rw [← hy] at u0 HLi
      obtain ⟨A', c', w', hr, hQ, hb⟩ := PcE.grow (a := a2) (c := c2) (l := (usedN t.next n).take i) (X := stB cb ⟨3, purl, (n : Int), sb⟩ :: pxJ (.slice (some ⟨ug, 0, none⟩) n uc) (usedN t.next n) :: X) (by rw [hlt0]; exact HX2.out) hB2 (by omega) y
      rw [hlt0] at hr hQ
      have e : (usedN t.next n).take i ++ [y] = (usedN t.next n).take (i + 1) := by
        obtain ⟨h5, h6⟩ := List.getElem?_eq_some_iff.1 HLi.out
        rw [List.take_succ_eq_append_getElem h5, h6]
      rw [e] at hQ
      have HQ := Lib.hid (And.intro hQ (HB2.out.trans hb))
      have hi1 : (0 : Int) ≤ (i : Int) := by omega
      have hi2 : (i : Int) < (n : Int) := by omega
      clear hQ hb e HX2 HLi hlt0 hy
      go_wp2_with (at_builtin; refine wpList_append_run _ rfl _ _ _ _ rfl _ _ (by rfl) (by rfl) hr ?_)
      go_roundw
      case rel => exact ⟨i + 1, by go_num, by omega, HQ.out.1, HQ.out.2⟩
      case measure => simp [intOf]; omega
    case neg =>
      have d1 : decide ((i : Int) < (n : Int)) = false := decide_eq_false (by omega)
      have d1' : decide (i < n) = false := decide_eq_false hlt
      obtain rfl : i = n := by omega
      have hli : (usedN t.next i).length = i := by simp [usedN_len]
      have hP2 := HX2.out
      rw [List.take_of_length_le (by omega)] at hP2
      have HC := Lib.hid (rput_any B pb t row k a2 c2 i (usedN t.next i) hli.symm purl _ _ (by rw [hli]; exact hP2) hB2 (by omega))
      clear hP2 HX2 hlt0
      go_wp2_with ((go_at_call 35; refine HC.out.mono ?_; rintro e w2 ⟨rfl, hp2, hb2⟩))
      have HQ := Lib.hid (And.intro hp2 (HB2.out.trans hb2))
      clear hp2 hb2 HC
      refine bodyPost_end (results_none rfl _ _ _) rfl ?_
      rw [hu]
      exact ClPost.mk' HSt.out HQ.out.1 HQ.out.2
set_option maxHeartbeats 4000000 in
theorem rcell4 (B pb : Nat) (t : Pw) (row k : Int) (s : Stc) (hs : s.ok = true) (hk : s.kind = 4) (uv : Value) (X : List Own) (hat : t.next + (usesS s).toNat ≤ t.lp.length) (hl : t.lp.length ≤ 50000) (w : World) (h : PcE B pb t (pxJ uv (usedN t.next (usesS s).toNat) :: X) w) (hB : B ≤ w.heap.size) :
    Calls Tryz.prog 37 #[.pointer (some ⟨pb, 0, none⟩), .int .i64 row, .int .i64 k, s.val, uv] w fun e w' => ClPost B pb (stepC row k s t) (pxJ uv (usedN t.next (usesS s).toNat) :: X) w e w' := by
  have hK := stc_k hs
  obtain ⟨kind, purl, sa, sb⟩ := s
  obtain rfl : kind = 4 := hk
  have hal := al_t w (.cells #[.int .u8 4, .bool purl, .int .i64 sa, .int .i64 sb] 51)
  have HX : Hid (PcE B pb t (stB w.heap.size ⟨4, purl, sa, sb⟩ :: pxJ uv (usedN t.next (usesS ⟨4, purl, sa, sb⟩).toNat) :: X) (w.alloc (.cells #[.int .u8 4, .bool purl, .int .i64 sa, .int .i64 sb] 51)) ∧ Below B w (w.alloc (.cells #[.int .u8 4, .bool purl, .int .i64 sa, .int .i64 sb] 51))) := by
    obtain ⟨vL, vB, vC, vR, vs, h⟩ := h
    exact ⟨⟨vL, vB, vC, vR, vs, h.add hal hB (bxT_new w _ _)⟩, hal.mono hB⟩
  obtain ⟨a0, c0, g0⟩ := HX.out.1.cells
  obtain ⟨x0, -⟩ := stB_at (HX.out.1.mem List.mem_cons_self)
  obtain ⟨cb, hcb⟩ : ∃ cb, cb = w.heap.size := ⟨_, rfl⟩
  obtain ⟨n0, hn0⟩ : ∃ n0, n0 = t.lp.length := ⟨_, rfl⟩
  rw [← hn0] at g0
  clear h hal
  show Calls Tryz.prog 37 #[_, _, _, .agg #[.int .u8 4, .bool purl, .int .i64 sa, .int .i64 sb], _] w _
  go_enter Tryz.func37, Tryz.ntmps37
  go_upto_region 3 with fail
  refine abs_world (Q := fun W => Code.wp _ _ _ _ W) (F := fun W => PcE B pb t (stB w.heap.size ⟨4, purl, sa, sb⟩ :: pxJ uv (usedN t.next (usesS ⟨4, purl, sa, sb⟩).toNat) :: X) W ∧ Below B w W) _ HX.out ?_
  clear HX g0 x0
  rw [← hcb]
  rintro W1 ⟨h1, hb1⟩
  have hB1 : B ≤ W1.heap.size := Nat.le_trans hB hb1.size
  have HP1 := Lib.hid h1
  have HB1 := Lib.hid hb1
  clear hb1 hcb
  obtain ⟨a1, a2, -⟩ := hK.few (by simp)
  obtain ⟨n, rfl⟩ : ∃ n : Nat, sa = (n : Int) := ⟨sa.toNat, by simp only at a1; omega⟩
  have hn1 : 1 ≤ n := by simp only at a1; omega
  have hn4 : n ≤ 4 := by simp only at a2; omega
  have hu : (usesS ⟨4, purl, (n : Int), sb⟩).toNat = n := by rw [hK.uses]; simp
  rw [hu] at h1 HP1 hat
  have HSt : Hid (stepC row k ⟨4, purl, (n : Int), sb⟩ t = ⟨t.lp ++ [⟨row, k, (usedN t.next n).reverse, purl⟩], t.bound, t.cross, t.rows, t.next + n⟩) := by
    show _ = _
    unfold stepC newsL boundL crossL
    rw [hu]
    simp
  obtain ⟨ug, uc, rfl, -⟩ := pxJ_at (h1.mem (List.mem_cons_of_mem _ List.mem_cons_self)) (usedN_at (a := t.next) (n := n) (i := 0) (by omega)) (usedN_len _ _)
  have HX1 : Hid (PcE B pb t (pxJ (.slice none 0 0) (((usedN t.next n).reverse).take 0) :: stB cb ⟨4, purl, (n : Int), sb⟩ :: pxJ (.slice (some ⟨ug, 0, none⟩) n uc) (usedN t.next n) :: X) W1) := HP1.out.nil
  clear h1 HP1 a1 a2
  go_wp2
  go_loopw [12, 13] (fun s12 s13 wr => ∃ i : Nat, s13 = .int .i64 (i : Int) ∧ i ≤ n ∧ Hid (PcE B pb t (pxJ s12 (((usedN t.next n).reverse).take i) :: stB cb ⟨4, purl, (n : Int), sb⟩ :: pxJ (.slice (some ⟨ug, 0, none⟩) n uc) (usedN t.next n) :: X) wr) ∧ Hid (Below B w wr)) (fun _ s13 _ => n - (intOf s13).toNat)
  case atStart => exact ⟨0, rfl, Nat.zero_le _, HX1.out, HB1.out⟩
  case round =>
    obtain ⟨i, rfl, hi, HX2, HB2⟩ := hrel
    clear HX1 HB1
    obtain ⟨W2, hW2⟩ : ∃ x : World, x = wr := ⟨_, rfl⟩
    rw [← hW2] at HX2 HB2 ⊢
    clear hW2
    have hB2 : B ≤ W2.heap.size := Nat.le_trans hB HB2.out.size
    have hlt0 : (((usedN t.next n).reverse).take i).length = i := by rw [List.length_take]; simp [usedN_len]; omega
    obtain ⟨a2, c2, rfl⟩ := pxJ_is (HX2.out.mem List.mem_cons_self) hlt0
    obtain ⟨x0, x1, x2, x3⟩ := stB_at (HX2.out.mem (List.mem_cons_of_mem _ List.mem_cons_self))
    by_cases hlt : i < n
    case pos =>
      have d1 : decide ((i : Int) < (n : Int)) = true := decide_eq_true (by omega)
      have d1' : decide (i < n) = true := decide_eq_true hlt
      obtain ⟨q, hq⟩ : ∃ q, q = n - 1 - i := ⟨_, rfl⟩
      have hqn : q < n := by omega
      have hqn' : (q : Int) < (n : Int) := by omega
      have hq0 : (0 : Int) ≤ (q : Int) := by omega
      have HLi : Hid (((usedN t.next n).reverse)[i]? = some ((t.next + q : Nat) : Int)) := by
        show _ = _
        rw [List.getElem?_reverse (by rw [usedN_len]; exact hlt), usedN_len, ← hq]
        exact usedN_at hqn
      have u0 := pxJ_cell (HX2.out.mem (List.mem_cons_of_mem _ (List.mem_cons_of_mem _ List.mem_cons_self))) (usedN_at (a := t.next) hqn) (usedN_len _ _)
      obtain ⟨y, hy⟩ : ∃ y : Int, y = ((t.next + q : Nat) : Int) := ⟨_, rfl⟩
      rw [← hy] at u0 HLi
      have hw1 : IntKind.i64.wrap (IntKind.i64.wrap ((n : Int) - 1) - (i : Int)) = (q : Int) := by
        rw [show IntKind.i64.wrap ((n : Int) - 1) = (n : Int) - 1 from IntWalk.i64_in _ (by omega), show (n : Int) - 1 - (i : Int) = (q : Int) by omega]; exact IntWalk.i64_in _ (by omega)
      have hw2 : IntKind.i64.wrap ((n : Int) - 1 - (i : Int)) = (q : Int) := by
        rw [show (n : Int) - 1 - (i : Int) = (q : Int) by omega]; exact IntWalk.i64_in _ (by omega)
      have hw3 : (n : Int) - 1 - (i : Int) = (q : Int) := by omega
      clear hq
      obtain ⟨A', c', w', hr, hQ, hb⟩ := PcE.grow (a := a2) (c := c2) (l := ((usedN t.next n).reverse).take i) (X := stB cb ⟨4, purl, (n : Int), sb⟩ :: pxJ (.slice (some ⟨ug, 0, none⟩) n uc) (usedN t.next n) :: X) (by rw [hlt0]; exact HX2.out) hB2 (by omega) y
      rw [hlt0] at hr hQ
      have e : ((usedN t.next n).reverse).take i ++ [y] = ((usedN t.next n).reverse).take (i + 1) := by
        obtain ⟨h5, h6⟩ := List.getElem?_eq_some_iff.1 HLi.out
        rw [List.take_succ_eq_append_getElem h5, h6]
      rw [e] at hQ
      have HQ := Lib.hid (And.intro hQ (HB2.out.trans hb))
      have hi1 : (0 : Int) ≤ (i : Int) := by omega
      have hi2 : (i : Int) < (n : Int) := by omega
      clear hQ hb e HX2 HLi hlt0 hy
      go_wp2_with (at_builtin; refine wpList_append_run _ rfl _ _ _ _ rfl _ _ (by rfl) (by rfl) hr ?_)
      go_roundw
      case rel => exact ⟨i + 1, by go_num, by omega, HQ.out.1, HQ.out.2⟩
      case measure => simp [intOf]; omega
    case neg =>
      have d1 : decide ((i : Int) < (n : Int)) = false := decide_eq_false (by omega)
      have d1' : decide (i < n) = false := decide_eq_false hlt
      obtain rfl : i = n := by omega
      have hli : ((usedN t.next i).reverse).length = i := by simp [usedN_len]
      have hP2 := HX2.out
      rw [List.take_of_length_le (by omega)] at hP2
      have HC := Lib.hid (rput_any B pb t row k a2 c2 i ((usedN t.next i).reverse) hli.symm purl _ _ (by rw [hli]; exact hP2) hB2 (by omega))
      clear hP2 HX2 hlt0
      go_wp2_with ((go_at_call 35; refine HC.out.mono ?_; rintro e w2 ⟨rfl, hp2, hb2⟩))
      have HQ := Lib.hid (And.intro hp2 (HB2.out.trans hb2))
      clear hp2 hb2 HC
      refine bodyPost_end (results_none rfl _ _ _) rfl ?_
      rw [hu]
      exact ClPost.mk' HSt.out HQ.out.1 HQ.out.2
set_option maxHeartbeats 4000000 in
theorem rcell5 (B pb : Nat) (t : Pw) (row k : Int) (s : Stc) (hs : s.ok = true) (hk : s.kind = 5) (uv : Value) (X : List Own) (hat : t.next + (usesS s).toNat ≤ t.lp.length) (hl : t.lp.length ≤ 50000) (w : World) (h : PcE B pb t (pxJ uv (usedN t.next (usesS s).toNat) :: X) w) (hB : B ≤ w.heap.size) :
    Calls Tryz.prog 37 #[.pointer (some ⟨pb, 0, none⟩), .int .i64 row, .int .i64 k, s.val, uv] w fun e w' => ClPost B pb (stepC row k s t) (pxJ uv (usedN t.next (usesS s).toNat) :: X) w e w' := by
  have hK := stc_k hs
  obtain ⟨kind, purl, sa, sb⟩ := s
  obtain rfl : kind = 5 := hk
  have hal := al_t w (.cells #[.int .u8 5, .bool purl, .int .i64 sa, .int .i64 sb] 51)
  have HX : Hid (PcE B pb t (stB w.heap.size ⟨5, purl, sa, sb⟩ :: pxJ uv (usedN t.next (usesS ⟨5, purl, sa, sb⟩).toNat) :: X) (w.alloc (.cells #[.int .u8 5, .bool purl, .int .i64 sa, .int .i64 sb] 51)) ∧ Below B w (w.alloc (.cells #[.int .u8 5, .bool purl, .int .i64 sa, .int .i64 sb] 51))) := by
    obtain ⟨vL, vB, vC, vR, vs, h⟩ := h
    exact ⟨⟨vL, vB, vC, vR, vs, h.add hal hB (bxT_new w _ _)⟩, hal.mono hB⟩
  obtain ⟨a0, c0, g0⟩ := HX.out.1.cells
  obtain ⟨x0, -⟩ := stB_at (HX.out.1.mem List.mem_cons_self)
  obtain ⟨cb, hcb⟩ : ∃ cb, cb = w.heap.size := ⟨_, rfl⟩
  obtain ⟨n0, hn0⟩ : ∃ n0, n0 = t.lp.length := ⟨_, rfl⟩
  rw [← hn0] at g0
  clear h hal
  show Calls Tryz.prog 37 #[_, _, _, .agg #[.int .u8 5, .bool purl, .int .i64 sa, .int .i64 sb], _] w _
  go_enter Tryz.func37, Tryz.ntmps37
  go_upto_region 3 with fail
  refine abs_world (Q := fun W => Code.wp _ _ _ _ W) (F := fun W => PcE B pb t (stB w.heap.size ⟨5, purl, sa, sb⟩ :: pxJ uv (usedN t.next (usesS ⟨5, purl, sa, sb⟩).toNat) :: X) W ∧ Below B w W) _ HX.out ?_
  clear HX g0 x0
  rw [← hcb]
  rintro W1 ⟨h1, hb1⟩
  have hB1 : B ≤ W1.heap.size := Nat.le_trans hB hb1.size
  have HP1 := Lib.hid h1
  have HB1 := Lib.hid hb1
  clear hb1 hcb
  obtain ⟨a1, a2, -⟩ := hK.few (by simp)
  obtain ⟨n, rfl⟩ : ∃ n : Nat, sa = (n : Int) := ⟨sa.toNat, by simp only at a1; omega⟩
  have hn4 : n ≤ 4 := by simp only at a2; omega
  have hu : (usesS ⟨5, purl, (n : Int), sb⟩).toNat = 1 := by rw [hK.uses]; rfl
  rw [hu] at h1 HP1 hat
  have HSt : Hid (stepC row k ⟨5, purl, (n : Int), sb⟩ t = ⟨t.lp ++ List.replicate n ⟨row, k, [(t.next : Int)], purl⟩, t.bound, t.cross, t.rows, t.next + 1⟩) := by
    show _ = _
    unfold stepC newsL boundL crossL
    rw [hu]
    simp [usedN]
  obtain ⟨ug, uc, rfl, -⟩ := pxJ_at (h1.mem (List.mem_cons_of_mem _ List.mem_cons_self)) (usedN_at (a := t.next) (n := 1) (i := 0) (by omega)) (usedN_len _ _)
  have HX1 : Hid (PcE B pb ⟨t.lp ++ List.replicate 0 ⟨row, k, [(t.next : Int)], purl⟩, t.bound, t.cross, t.rows, t.next⟩ (stB cb ⟨5, purl, (n : Int), sb⟩ :: pxJ (.slice (some ⟨ug, 0, none⟩) 1 uc) (usedN t.next 1) :: X) W1) := by
    show PcE _ _ _ _ _
    rw [List.replicate_zero, List.append_nil]
    exact h1
  clear h1 HP1
  go_wp2
  go_loopw [14] (fun s11 wr => ∃ i : Nat, s11 = .int .i64 (i : Int) ∧ i ≤ n ∧ Hid (PcE B pb ⟨t.lp ++ List.replicate i ⟨row, k, [(t.next : Int)], purl⟩, t.bound, t.cross, t.rows, t.next⟩ (stB cb ⟨5, purl, (n : Int), sb⟩ :: pxJ (.slice (some ⟨ug, 0, none⟩) 1 uc) (usedN t.next 1) :: X) wr) ∧ Hid (Below B w wr)) (fun s11 _ => n - (intOf s11).toNat)
  case atStart => exact ⟨0, rfl, Nat.zero_le _, HX1.out, HB1.out⟩
  case round =>
    obtain ⟨i, rfl, hi, HX2, HB2⟩ := hrel
    clear HX1 HB1
    obtain ⟨W2, hW2⟩ : ∃ x : World, x = wr := ⟨_, rfl⟩
    rw [← hW2] at HX2 HB2 ⊢
    clear hW2
    have hB2 : B ≤ W2.heap.size := Nat.le_trans hB HB2.out.size
    obtain ⟨x0, x1, x2, x3⟩ := stB_at (HX2.out.mem List.mem_cons_self)
    by_cases hlt : i < n
    case pos =>
      have d1 : decide ((i : Int) < (n : Int)) = true := decide_eq_true (by omega)
      have d1' : decide (i < n) = true := decide_eq_true hlt
      have u0 := pxJ_cell (HX2.out.mem (List.mem_cons_of_mem _ List.mem_cons_self)) (usedN_at (a := t.next) (n := 1) (i := 0) (by omega)) (usedN_len _ _)
      simp only [Nat.add_zero] at u0
      have hlit := HX2.out.lit hB2 (t.next : Int)
      have hdr : Below (W2.alloc (.cells #[.int .i64 (t.next : Int)] 3)).heap.size (W2.alloc (.cells #[.int .i64 (t.next : Int)] 3)) (W2.alloc (.cells #[.int .i64 (t.next : Int)] 3)).drew := Below.drew (Below.refl _ _)
      have hBd : Below B W2 (W2.alloc (.cells #[.int .i64 (t.next : Int)] 3)).drew := hlit.2.trans (hdr.mono (Nat.le_trans hB2 hlit.2.size))
      have hc := rput_any B pb _ row k (some ⟨W2.heap.size, 0, none⟩) 1 1 [(t.next : Int)] rfl purl _ _ (hlit.1.to hdr) (Nat.le_trans hB2 hBd.size) (by simp only [List.length_append, List.length_replicate]; omega)
      have e : (t.lp ++ List.replicate i (⟨row, k, [(t.next : Int)], purl⟩ : Lp)) ++ [⟨row, k, [(t.next : Int)], purl⟩] = t.lp ++ List.replicate (i + 1) ⟨row, k, [(t.next : Int)], purl⟩ := by rw [List.append_assoc, ← List.replicate_succ']
      simp only [e] at hc
      have HC := Lib.hid hc
      have HBd := Lib.hid hBd
      have lu := lt_of_cell u0
      have lx := lt_of_cell x1
      have hal1 := al_t W2 (.cells #[.int .i64 (t.next : Int)] 3)
      have HKp : Hid (∀ W', Below W2.heap.size W2 W' → W'.cell? ⟨ug, 0, none⟩ = some (.int .i64 (t.next : Int)) ∧ W'.cell? ⟨cb, 1, none⟩ = some (.bool purl)) := fun W' hb => ⟨(bcell hb lu _).trans u0, (bcell hb lx _).trans x1⟩
      have HKq : Hid (∀ t' W', PcE B pb t' (stB cb ⟨5, purl, (n : Int), sb⟩ :: pxJ (.slice (some ⟨ug, 0, none⟩) 1 uc) (usedN t.next 1) :: X) W' → W'.cell? ⟨ug, 0, none⟩ = some (.int .i64 (t.next : Int)) ∧ W'.cell? ⟨cb, 1, none⟩ = some (.bool purl)) := fun t' W' h => ⟨pxJ_cell (h.mem (List.mem_cons_of_mem _ List.mem_cons_self)) (usedN_at (a := t.next) (n := 1) (i := 0) (by omega)) (usedN_len _ _), (stB_at (h.mem List.mem_cons_self)).2.1⟩
      have HK1 := Lib.hid (HKp.out _ (Below.drew (Below.refl _ _)))
      have HK2 := Lib.hid (HKp.out _ (Below.drew hal1))
      clear hlit hdr hBd hc e HX2 hal1 lu lx u0
      go_upto_region 26 with fail
      go_region_held3 (fun W' => W'.cell? ⟨ug, 0, none⟩ = some (.int .i64 (t.next : Int)) ∧ W'.cell? ⟨cb, 1, none⟩ = some (.bool purl))
        (first | (with_reducible exact HK1.out) | (with_reducible exact HK2.out) | exact HKq.out _ _ (by assumption) | fail)
        (first | (go_at_call 35; refine HC.out.mono ?_; rintro e w2 ⟨rfl, hp2, hb2⟩))
      have HQ := Lib.hid (And.intro hp2 (HB2.out.trans (HBd.out.trans hb2)))
      clear hp2 hb2 HC HKp HKq HK1 HK2 x0 x1 x2 x3
      go_wp2
      go_roundw
      case rel => exact ⟨i + 1, by go_num, by omega, HQ.out.1, HQ.out.2⟩
      case measure => simp [intOf]; omega
    case neg =>
      have d1 : decide ((i : Int) < (n : Int)) = false := decide_eq_false (by omega)
      have d1' : decide (i < n) = false := decide_eq_false hlt
      obtain rfl : i = n := by omega
      go_wp2
      refine bodyPost_end (results_none rfl _ _ _) rfl ?_
      (try rw [hu])
      exact ClPost.mk' HSt.out HX2.out HB2.out
set_option maxHeartbeats 4000000 in
theorem rcell8 (B pb : Nat) (t : Pw) (row k : Int) (s : Stc) (hs : s.ok = true) (hk : s.kind = 8) (uv : Value) (X : List Own) (hat : t.next + (usesS s).toNat ≤ t.lp.length) (hl : t.lp.length ≤ 50000) (w : World) (h : PcE B pb t (pxJ uv (usedN t.next (usesS s).toNat) :: X) w) (hB : B ≤ w.heap.size) :
    Calls Tryz.prog 37 #[.pointer (some ⟨pb, 0, none⟩), .int .i64 row, .int .i64 k, s.val, uv] w fun e w' => ClPost B pb (stepC row k s t) (pxJ uv (usedN t.next (usesS s).toNat) :: X) w e w' := by
  have hK := stc_k hs
  obtain ⟨kind, purl, sa, sb⟩ := s
  obtain rfl : kind = 8 := hk
  have hal := al_t w (.cells #[.int .u8 8, .bool purl, .int .i64 sa, .int .i64 sb] 51)
  have HX : Hid (PcE B pb t (stB w.heap.size ⟨8, purl, sa, sb⟩ :: pxJ uv (usedN t.next (usesS ⟨8, purl, sa, sb⟩).toNat) :: X) (w.alloc (.cells #[.int .u8 8, .bool purl, .int .i64 sa, .int .i64 sb] 51)) ∧ Below B w (w.alloc (.cells #[.int .u8 8, .bool purl, .int .i64 sa, .int .i64 sb] 51))) := by
    obtain ⟨vL, vB, vC, vR, vs, h⟩ := h
    exact ⟨⟨vL, vB, vC, vR, vs, h.add hal hB (bxT_new w _ _)⟩, hal.mono hB⟩
  obtain ⟨a0, c0, g0⟩ := HX.out.1.cells
  obtain ⟨x0, -⟩ := stB_at (HX.out.1.mem List.mem_cons_self)
  obtain ⟨cb, hcb⟩ : ∃ cb, cb = w.heap.size := ⟨_, rfl⟩
  obtain ⟨n0, hn0⟩ : ∃ n0, n0 = t.lp.length := ⟨_, rfl⟩
  rw [← hn0] at g0
  clear h hal
  show Calls Tryz.prog 37 #[_, _, _, .agg #[.int .u8 8, .bool purl, .int .i64 sa, .int .i64 sb], _] w _
  go_enter Tryz.func37, Tryz.ntmps37
  go_upto_region 3 with fail
  refine abs_world (Q := fun W => Code.wp _ _ _ _ W) (F := fun W => PcE B pb t (stB w.heap.size ⟨8, purl, sa, sb⟩ :: pxJ uv (usedN t.next (usesS ⟨8, purl, sa, sb⟩).toNat) :: X) W ∧ Below B w W) _ HX.out ?_
  clear HX g0 x0
  rw [← hcb]
  rintro W1 ⟨h1, hb1⟩
  have hB1 : B ≤ W1.heap.size := Nat.le_trans hB hb1.size
  have HP1 := Lib.hid h1
  have HB1 := Lib.hid hb1
  clear hb1 hcb
  have hu : (usesS ⟨8, purl, sa, sb⟩).toNat = 1 := by rw [hK.uses]; rfl
  rw [hu] at h1 HP1 hat
  obtain ⟨l, hl8⟩ : ∃ l, t.lp[t.next]? = some l := ⟨_, List.getElem?_eq_getElem (show t.next < t.lp.length by omega)⟩
  have HSt : Hid (stepC row k ⟨8, purl, sa, sb⟩ t = ⟨t.lp ++ [⟨row, k, [(t.next : Int)], l.purl⟩], t.bound, t.cross, t.rows, t.next + 1⟩) := by
    show _ = _
    have e : t.lp[t.next]?.getD lp0 = l := by rw [hl8]; rfl
    unfold stepC newsL boundL crossL
    rw [hu]
    simp only [usedN]
    simp [e]
  obtain ⟨ug, uc, rfl, u0⟩ := pxJ_at (h1.mem (List.mem_cons_of_mem _ List.mem_cons_self)) (usedN_at (a := t.next) (n := 1) (i := 0) (by omega)) (usedN_len _ _)
  simp only [Nat.add_zero] at u0
  obtain ⟨lg, lc, q0, q1⟩ : ∃ g c, W1.cell? ⟨pb, 0, none⟩ = some (.slice (some ⟨g, 0, none⟩) t.lp.length c) ∧ W1.cell? ⟨g, t.next * 4 + 3, none⟩ = some (.bool l.purl) := by
    obtain ⟨vL, vB, vC, vR, vs, hP⟩ := h1
    obtain ⟨g, c, u, rfl, -, -, -, -, hq⟩ := pxL_at hP.own.tail hP.vl hl8
    exact ⟨g, c, hP.cells.1, hq⟩
  have hlit := h1.lit hB1 (t.next : Int)
  have hdr : Below (W1.alloc (.cells #[.int .i64 (t.next : Int)] 3)).heap.size (W1.alloc (.cells #[.int .i64 (t.next : Int)] 3)) (W1.alloc (.cells #[.int .i64 (t.next : Int)] 3)).drew := Below.drew (Below.refl _ _)
  have hBd : Below B W1 (W1.alloc (.cells #[.int .i64 (t.next : Int)] 3)).drew := hlit.2.trans (hdr.mono (Nat.le_trans hB1 hlit.2.size))
  have HC := Lib.hid (rput_any B pb t row k (some ⟨W1.heap.size, 0, none⟩) 1 1 [(t.next : Int)] rfl l.purl _ _ (hlit.1.to hdr) (Nat.le_trans hB1 hBd.size) (by omega))
  have HBd := Lib.hid hBd
  have lu := lt_of_cell u0
  have hal1 := al_t W1 (.cells #[.int .i64 (t.next : Int)] 3)
  have q0a := cell_al q0 (.cells #[.int .i64 (t.next : Int)] 3)
  have q1a := cell_al q1 (.cells #[.int .i64 (t.next : Int)] 3)
  have HKp : Hid (∀ W', Below W1.heap.size W1 W' → W'.cell? ⟨ug, 0, none⟩ = some (.int .i64 (t.next : Int))) := fun W' hb => (bcell hb lu _).trans u0
  have HKq : Hid (∀ t' W', PcE B pb t' (stB cb ⟨8, purl, sa, sb⟩ :: pxJ (.slice (some ⟨ug, 0, none⟩) 1 uc) (usedN t.next 1) :: X) W' → W'.cell? ⟨ug, 0, none⟩ = some (.int .i64 (t.next : Int))) := fun t' W' h => pxJ_cell (h.mem (List.mem_cons_of_mem _ List.mem_cons_self)) (usedN_at (a := t.next) (n := 1) (i := 0) (by omega)) (usedN_len _ _)
  have HK1 := Lib.hid (HKp.out _ (Below.drew (Below.refl _ _)))
  have HK2 := Lib.hid (HKp.out _ (Below.drew hal1))
  have hnl : (t.next : Int) < (t.lp.length : Int) := by omega
  have hnl' : t.next < t.lp.length := by omega
  have hn0' : (0 : Int) ≤ (t.next : Int) := by omega
  obtain ⟨N, hN⟩ : ∃ N, N = t.lp.length := ⟨_, rfl⟩
  obtain ⟨pl, hpl⟩ : ∃ pl, pl = l.purl := ⟨_, rfl⟩
  rw [← hN] at q0 q0a hnl hnl'
  rw [← hpl] at q1 q1a HC HSt
  clear hlit hdr hBd h1 hal1 lu hN hpl hl8
  go_upto_region 44 with fail
  have hld : ∀ (t : TypeId) (x : Operand), ldOw t x = Op.load t x := fun _ _ => rfl
  rw [show Op.load 32 (Operand.tmp 193) = ldOw 32 (Operand.tmp 193) from rfl, show Op.load 4 (Operand.tmp 199) = ldOw 4 (Operand.tmp 199) from rfl]
  go_region_held3 (fun W' => W'.cell? ⟨ug, 0, none⟩ = some (.int .i64 (t.next : Int)))
    (first | (with_reducible exact HK1.out) | (with_reducible exact HK2.out) | exact HKq.out _ _ (by assumption) | fail)
    (first | (go_at_call 35; refine HC.out.mono ?_; rintro e w2 ⟨rfl, hp2, hb2⟩) | fail)
  all_goals
    have HQ := Lib.hid (And.intro hp2 (HB1.out.trans (HBd.out.trans hb2)))
    clear hp2 hb2
    simp only [Exit.inBlock]
    refine bodyPost_end (results_none rfl _ _ _) rfl ?_
    rw [hu]
    exact ClPost.mk' HSt.out HQ.out.1 HQ.out.2
set_option maxHeartbeats 4000000 in
theorem rcell9 (B pb : Nat) (t : Pw) (row k : Int) (s : Stc) (hs : s.ok = true) (hk : s.kind = 9) (uv : Value) (X : List Own) (hat : t.next + (usesS s).toNat ≤ t.lp.length) (hl : t.lp.length ≤ 50000) (w : World) (h : PcE B pb t (pxJ uv (usedN t.next (usesS s).toNat) :: X) w) (hB : B ≤ w.heap.size) :
    Calls Tryz.prog 37 #[.pointer (some ⟨pb, 0, none⟩), .int .i64 row, .int .i64 k, s.val, uv] w fun e w' => ClPost B pb (stepC row k s t) (pxJ uv (usedN t.next (usesS s).toNat) :: X) w e w' := by
  have hK := stc_k hs
  obtain ⟨kind, purl, sa, sb⟩ := s
  obtain rfl : kind = 9 := hk
  have hal := al_t w (.cells #[.int .u8 9, .bool purl, .int .i64 sa, .int .i64 sb] 51)
  have HX : Hid (PcE B pb t (stB w.heap.size ⟨9, purl, sa, sb⟩ :: pxJ uv (usedN t.next (usesS ⟨9, purl, sa, sb⟩).toNat) :: X) (w.alloc (.cells #[.int .u8 9, .bool purl, .int .i64 sa, .int .i64 sb] 51)) ∧ Below B w (w.alloc (.cells #[.int .u8 9, .bool purl, .int .i64 sa, .int .i64 sb] 51))) := by
    obtain ⟨vL, vB, vC, vR, vs, h⟩ := h
    exact ⟨⟨vL, vB, vC, vR, vs, h.add hal hB (bxT_new w _ _)⟩, hal.mono hB⟩
  obtain ⟨a0, c0, g0⟩ := HX.out.1.cells
  obtain ⟨x0, -⟩ := stB_at (HX.out.1.mem List.mem_cons_self)
  obtain ⟨cb, hcb⟩ : ∃ cb, cb = w.heap.size := ⟨_, rfl⟩
  obtain ⟨n0, hn0⟩ : ∃ n0, n0 = t.lp.length := ⟨_, rfl⟩
  rw [← hn0] at g0
  clear h hal
  show Calls Tryz.prog 37 #[_, _, _, .agg #[.int .u8 9, .bool purl, .int .i64 sa, .int .i64 sb], _] w _
  go_enter Tryz.func37, Tryz.ntmps37
  go_upto_region 3 with fail
  refine abs_world (Q := fun W => Code.wp _ _ _ _ W) (F := fun W => PcE B pb t (stB w.heap.size ⟨9, purl, sa, sb⟩ :: pxJ uv (usedN t.next (usesS ⟨9, purl, sa, sb⟩).toNat) :: X) W ∧ Below B w W) _ HX.out ?_
  clear HX g0 x0
  rw [← hcb]
  rintro W1 ⟨h1, hb1⟩
  have hB1 : B ≤ W1.heap.size := Nat.le_trans hB hb1.size
  have HP1 := Lib.hid h1
  have HB1 := Lib.hid hb1
  clear hb1 hcb
  have hu : (usesS ⟨9, purl, sa, sb⟩).toNat = 0 := by rw [hK.uses]; rfl
  obtain rfl : purl = false := hK.over (Or.inr rfl)
  obtain ⟨a1, a2, -⟩ := hK.many (Or.inl rfl)
  obtain ⟨n, rfl⟩ : ∃ n : Nat, sa = (n : Int) := ⟨sa.toNat, by simp only at a1; omega⟩
  have hn200 : n ≤ 200 := by simp only at a2; omega
  have HSt : Hid (stepC row k ⟨9, false, (n : Int), sb⟩ t = ⟨t.lp ++ List.replicate n ⟨row, k, [], false⟩, t.bound, t.cross, t.rows, t.next⟩) := by
    show _ = _
    unfold stepC newsL boundL crossL
    rw [hu]
    simp
  have HX1 : Hid (PcE B pb ⟨t.lp ++ List.replicate 0 ⟨row, k, [], false⟩, t.bound, t.cross, t.rows, t.next⟩ (stB cb ⟨9, false, (n : Int), sb⟩ :: pxJ uv (usedN t.next (usesS ⟨9, false, (n : Int), sb⟩).toNat) :: X) W1) := by
    show PcE _ _ _ _ _
    rw [List.replicate_zero, List.append_nil]
    exact h1
  clear h1 HP1
  go_wp2
  go_loopw [11] (fun s11 wr => ∃ i : Nat, s11 = .int .i64 (i : Int) ∧ i ≤ n ∧ Hid (PcE B pb ⟨t.lp ++ List.replicate i ⟨row, k, [], false⟩, t.bound, t.cross, t.rows, t.next⟩ (stB cb ⟨9, false, (n : Int), sb⟩ :: pxJ uv (usedN t.next (usesS ⟨9, false, (n : Int), sb⟩).toNat) :: X) wr) ∧ Hid (Below B w wr)) (fun s11 _ => n - (intOf s11).toNat)
  case atStart => exact ⟨0, rfl, Nat.zero_le _, HX1.out, HB1.out⟩
  case round =>
    obtain ⟨i, rfl, hi, HX2, HB2⟩ := hrel
    clear HX1 HB1
    obtain ⟨W2, hW2⟩ : ∃ x : World, x = wr := ⟨_, rfl⟩
    rw [← hW2] at HX2 HB2 ⊢
    clear hW2
    have hB2 : B ≤ W2.heap.size := Nat.le_trans hB HB2.out.size
    obtain ⟨x0, x1, x2, x3⟩ := stB_at (HX2.out.mem List.mem_cons_self)
    by_cases hlt : i < n
    case pos =>
      have d1 : decide ((i : Int) < (n : Int)) = true := decide_eq_true (by omega)
      have d1' : decide (i < n) = true := decide_eq_true hlt
      have hc := rput_any B pb _ row k none 0 0 [] rfl false _ _ HX2.out.nil hB2 (by simp only [List.length_append, List.length_replicate]; omega)
      have e : (t.lp ++ List.replicate i (⟨row, k, [], false⟩ : Lp)) ++ [⟨row, k, [], false⟩] = t.lp ++ List.replicate (i + 1) ⟨row, k, [], false⟩ := by rw [List.append_assoc, ← List.replicate_succ']
      simp only [e] at hc
      have HC := Lib.hid hc
      clear hc e HX2
      go_wp2_with ((go_at_call 35; refine HC.out.mono ?_; rintro e w2 ⟨rfl, hp2, hb2⟩))
      have HQ := Lib.hid (And.intro hp2 (HB2.out.trans hb2))
      clear hp2 hb2 HC
      go_roundw
      case rel => exact ⟨i + 1, by go_num, by omega, HQ.out.1, HQ.out.2⟩
      case measure => simp [intOf]; omega
    case neg =>
      have d1 : decide ((i : Int) < (n : Int)) = false := decide_eq_false (by omega)
      have d1' : decide (i < n) = false := decide_eq_false hlt
      obtain rfl : i = n := by omega
      go_wp2
      refine bodyPost_end (results_none rfl _ _ _) rfl ?_
      exact ClPost.mk' HSt.out HX2.out HB2.out
set_option maxHeartbeats 4000000 in
theorem rcell10 (B pb : Nat) (t : Pw) (row k : Int) (s : Stc) (hs : s.ok = true) (hk : s.kind = 10) (uv : Value) (X : List Own) (hat : t.next + (usesS s).toNat ≤ t.lp.length) (hbl : t.bound.length ≤ 50000) (w : World) (h : PcE B pb t (pxJ uv (usedN t.next (usesS s).toNat) :: X) w) (hB : B ≤ w.heap.size) :
    Calls Tryz.prog 37 #[.pointer (some ⟨pb, 0, none⟩), .int .i64 row, .int .i64 k, s.val, uv] w fun e w' => ClPost B pb (stepC row k s t) (pxJ uv (usedN t.next (usesS s).toNat) :: X) w e w' := by
  have hK := stc_k hs
  obtain ⟨kind, purl, sa, sb⟩ := s
  obtain rfl : kind = 10 := hk
  have hal := al_t w (.cells #[.int .u8 10, .bool purl, .int .i64 sa, .int .i64 sb] 51)
  have HX : Hid (PcE B pb t (stB w.heap.size ⟨10, purl, sa, sb⟩ :: pxJ uv (usedN t.next (usesS ⟨10, purl, sa, sb⟩).toNat) :: X) (w.alloc (.cells #[.int .u8 10, .bool purl, .int .i64 sa, .int .i64 sb] 51)) ∧ Below B w (w.alloc (.cells #[.int .u8 10, .bool purl, .int .i64 sa, .int .i64 sb] 51))) := by
    obtain ⟨vL, vB, vC, vR, vs, h⟩ := h
    exact ⟨⟨vL, vB, vC, vR, vs, h.add hal hB (bxT_new w _ _)⟩, hal.mono hB⟩
  obtain ⟨a0, c0, g0⟩ := HX.out.1.cells
  obtain ⟨x0, -⟩ := stB_at (HX.out.1.mem List.mem_cons_self)
  obtain ⟨cb, hcb⟩ : ∃ cb, cb = w.heap.size := ⟨_, rfl⟩
  obtain ⟨n0, hn0⟩ : ∃ n0, n0 = t.lp.length := ⟨_, rfl⟩
  rw [← hn0] at g0
  clear h hal
  show Calls Tryz.prog 37 #[_, _, _, .agg #[.int .u8 10, .bool purl, .int .i64 sa, .int .i64 sb], _] w _
  go_enter Tryz.func37, Tryz.ntmps37
  go_upto_region 3 with fail
  refine abs_world (Q := fun W => Code.wp _ _ _ _ W) (F := fun W => PcE B pb t (stB w.heap.size ⟨10, purl, sa, sb⟩ :: pxJ uv (usedN t.next (usesS ⟨10, purl, sa, sb⟩).toNat) :: X) W ∧ Below B w W) _ HX.out ?_
  clear HX g0 x0
  rw [← hcb]
  rintro W1 ⟨h1, hb1⟩
  have hB1 : B ≤ W1.heap.size := Nat.le_trans hB hb1.size
  have HP1 := Lib.hid h1
  have HB1 := Lib.hid hb1
  clear hb1 hcb
  obtain ⟨a1, a2, -⟩ := hK.many (Or.inr rfl)
  obtain ⟨n, rfl⟩ : ∃ n : Nat, sa = (n : Int) := ⟨sa.toNat, by simp only at a1; omega⟩
  have hn1 : 1 ≤ n := by simp only at a1; omega
  have hn200 : n ≤ 200 := by simp only at a2; omega
  have hu : (usesS ⟨10, purl, (n : Int), sb⟩).toNat = n := by rw [hK.uses]; simp
  rw [hu] at h1 HP1 hat
  have HSt : Hid (stepC row k ⟨10, purl, (n : Int), sb⟩ t = ⟨t.lp, t.bound ++ usedN t.next n, t.cross, t.rows, t.next + n⟩) := by
    show _ = _
    unfold stepC newsL boundL crossL
    rw [hu]
    simp
  obtain ⟨ug, uc, rfl, -⟩ := pxJ_at (h1.mem (List.mem_cons_of_mem _ List.mem_cons_self)) (usedN_at (a := t.next) (n := n) (i := 0) (by omega)) (usedN_len _ _)
  have hused := pxJ_lies (h1.mem (List.mem_cons_of_mem _ List.mem_cons_self))
  obtain ⟨vL, vB, vC, vR, vs, hP⟩ := h1
  obtain ⟨a5, c5, rfl⟩ := hP.forms.2.1
  obtain ⟨-, c1, -⟩ := hP.cells
  obtain ⟨A', c', w', hr, hf, c1', hQ, hb⟩ := hP.pushB hB1 (by omega) (some ⟨ug, 0, none⟩) uc (usedN t.next n) (by rw [usedN_len]; omega) hused (fun e => by cases e)
  rw [usedN_len] at hr hQ hb
  have HQ := Lib.hid (And.intro hQ (HB1.out.trans hb))
  obtain ⟨m, hm⟩ : ∃ m, m = t.bound.length := ⟨_, rfl⟩
  rw [← hm] at hr HQ c1 c1'
  clear hQ hb hused hP HP1 hm
  go_wp2_with (at_builtin; refine wpList_append_run _ rfl _ _ _ _ rfl _ _ (by rfl) (by rfl) hr ?_)
  refine bodyPost_end (results_none rfl _ _ _) rfl ?_
  (try rw [hu])
  exact ClPost.mk' HSt.out ⟨_, _, _, _, _, HQ.out.1⟩ HQ.out.2
end Go.Proofs.YtbnddpknejgmhaaGreat
