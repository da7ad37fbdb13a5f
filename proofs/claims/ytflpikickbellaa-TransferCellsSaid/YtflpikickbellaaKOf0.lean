/- Layer 32: Of: plain; its memory. -/
import Derived.Test.YtflpikickbellaaKSt4
import Derived.Test.YtflpikickbellaaKG14
namespace Go.Proofs.Ytflpikickbellaa
open Go.RowKit Go.Shelf Go.Sort
set_option maxRecDepth 100000

/-! Plain: what a cell adds. -/
def ofM (s : Stc) : Nat := if s.kind = 2 then 0 else if s.kind = 3 ∨ s.kind = 4 then s.a.toNat else if s.kind = 6 ∨ s.kind = 7 then (s.a + s.b).toNat else 1
def ofG (s : Stc) : Nat := if s.kind = 6 ∨ s.kind = 7 then (s.a + s.b).toNat else 1
def toF (s : Stc) (nd i : Nat) : Int := if s.kind = 6 ∨ s.kind = 7 then (nd : Int) + ((i : Int) + s.b) % (s.a + s.b) else nd
def kF (s : Stc) (i : Nat) : Nat := if s.kind = 3 ∨ s.kind = 4 then i else if s.kind = 6 ∨ s.kind = 7 then (if s.a ≤ (i : Int) then s.a.toNat else 0) else 0
def swF (s : Stc) : Bool := decide (s.kind = 4 ∨ s.kind = 7)
def swP (sw : Bool) (p : Int × Int) : Int × Int := if sw then (p.2, p.1) else p
def prI (s : Stc) (at_ i k : Nat) : Int × Int := swP (swF s) ((at_ : Int) + (k : Int), (at_ : Int) + (i : Int))
def prsI (s : Stc) (at_ i k : Nat) : List (Int × Int) := (List.range k).map (prI s at_ i)
def frI (s : Stc) (at_ i : Nat) : List (Int × Int) := (List.range i).flatMap fun j => prsI s at_ j (kF s j)
def toI (s : Stc) (nd i : Nat) : List Int := (List.range i).map (toF s nd)
theorem prsI_next (s : Stc) (at_ i k : Nat) : prsI s at_ i (k + 1) = prsI s at_ i k ++ [prI s at_ i k] := by unfold prsI; rw [List.range_succ, List.map_append]; rfl
theorem frI_next (s : Stc) (at_ i : Nat) : frI s at_ (i + 1) = frI s at_ i ++ prsI s at_ i (kF s i) := by unfold frI; rw [List.range_succ, List.flatMap_append]; simp
theorem toI_next (s : Stc) (nd i : Nat) : toI s nd (i + 1) = toI s nd i ++ [toF s nd i] := by unfold toI; rw [List.range_succ, List.map_append]; rfl
theorem toI_len (s : Stc) (nd i : Nat) : (toI s nd i).length = i := by unfold toI; rw [List.length_map, List.length_range]
theorem prsI_len (s : Stc) (at_ i k : Nat) : (prsI s at_ i k).length = k := by unfold prsI; rw [List.length_map, List.length_range]
structure OfT where
  nd : Nat
  to_ : List Int
  fr : List (Int × Int)
def stepO (t : OfT) (s : Stc) : OfT := ⟨t.nd + ofG s, t.to_ ++ toI s t.nd (ofM s), t.fr ++ frI s t.to_.length (ofM s)⟩
def runO (l : List Stc) (k : Nat) : OfT := (l.take k).foldl stepO ⟨0, [], []⟩
theorem runO_zero (l : List Stc) : runO l 0 = ⟨0, [], []⟩ := rfl
theorem runO_next {l : List Stc} {k : Nat} {s : Stc} (h : l[k]? = some s) : runO l (k + 1) = stepO (runO l k) s := by
  obtain ⟨hk, e⟩ := List.getElem?_eq_some_iff.1 h
  unfold runO
  rw [List.take_succ_eq_append_getElem hk, e, List.foldl_append]
  rfl
def kindB (s : Stc) : Bool := decide (s.kind = 5) || decide (9 ≤ s.kind)
def sortP (l : List (Int × Int)) : List (Int × Int) := l.mergeSort fun x y => !(decide (cmpP y x < 0))
def farB (to_ : List Int) : Bool := (List.range to_.length).any fun i => decide (8 < max (to_.getD i 0 - (i : Int)) ((i : Int) - to_.getD i 0))
def ofE (l : List Stc) : Sft × Int :=
  if allE l ≠ 0 then (⟨[], []⟩, allE l) else if l.any kindB then (⟨[], []⟩, 2) else if 40 < sumU l then (⟨[], []⟩, 4)
  else if farB (runO l l.length).to_ then (⟨[], []⟩, 16) else (⟨(runO l l.length).to_, sortP (runO l l.length).fr⟩, 0)
/-- A cell that Of takes. -/
structure CellOk (s : Stc) : Prop where
  ok : s.ok = true
  kind : s.kind = 1 ∨ s.kind = 2 ∨ s.kind = 3 ∨ s.kind = 4 ∨ s.kind = 6 ∨ s.kind = 7 ∨ s.kind = 8
theorem cell_ok {s : Stc} (h : s.ok = true) (hk : kindB s = false) : CellOk s := by
  refine ⟨h, ?_⟩
  unfold Stc.ok at h
  rw [Bool.and_eq_true, decide_eq_true_eq] at h
  unfold kindB at hk
  rw [Bool.or_eq_false_iff, decide_eq_false_iff_not, decide_eq_false_iff_not] at hk
  omega
theorem formI_at {k : Int} {f : Form} (hk : 1 ≤ k) (h : formT[(k - 1).toNat]? = some f) : formI k = f := by
  unfold formI
  rw [if_pos hk, List.getD_eq_getElem?_getD, h]; rfl
/-- How far a cell's numbers go. -/
theorem CellOk.rng {s : Stc} (h : CellOk s) : (s.kind = 3 ∨ s.kind = 4 → 2 ≤ s.a ∧ s.a ≤ 4) ∧ (s.kind = 6 ∨ s.kind = 7 → 1 ≤ s.a ∧ s.a ≤ 6 ∧ 1 ≤ s.b ∧ s.b ≤ 6) := by
  have h1 := h.ok
  unfold Stc.ok at h1
  simp only [Bool.and_eq_true, decide_eq_true_eq] at h1
  obtain ⟨-, ⟨h2, h3⟩, ⟨h4, h5⟩, -⟩ := h1
  refine ⟨?_, ?_⟩
  · rintro (e | e) <;> rw [e] at h2 h3
    · have : formI 3 = formT[2] := rfl
      rw [this] at h2 h3
      exact ⟨h2, h3⟩
    · have : formI 4 = formT[3] := rfl
      rw [this] at h2 h3
      exact ⟨h2, h3⟩
  · rintro (e | e) <;> rw [e] at h2 h3 h4 h5
    · have : formI 6 = formT[5] := rfl
      rw [this] at h2 h3 h4 h5
      exact ⟨h2, h3, h4, h5⟩
    · have : formI 7 = formT[6] := rfl
      rw [this] at h2 h3 h4 h5
      exact ⟨h2, h3, h4, h5⟩
theorem CellOk.uses {s : Stc} (h : CellOk s) : (ofM s : Int) = usesS s := by
  obtain ⟨r1, r2⟩ := h.rng
  unfold usesS ofM
  rcases h.kind with e | e | e | e | e | e | e <;> rw [e]
  · rfl
  · rfl
  · have := r1 (Or.inl e)
    have e2 : loopsI s (formI 3).uses = s.a := rfl
    rw [e2]; simp; omega
  · have := r1 (Or.inr e)
    have e2 : loopsI s (formI 4).uses = s.a := rfl
    rw [e2]; simp; omega
  · have := r2 (Or.inl e)
    have e2 : loopsI s (formI 6).uses = s.a + s.b := rfl
    rw [e2]; simp; omega
  · have := r2 (Or.inr e)
    have e2 : loopsI s (formI 7).uses = s.a + s.b := rfl
    rw [e2]; simp; omega
  · rfl
theorem CellOk.small {s : Stc} (h : CellOk s) : ofM s ≤ 12 ∧ ofG s ≤ 12 := by
  obtain ⟨r1, r2⟩ := h.rng
  unfold ofM ofG
  rcases h.kind with e | e | e | e | e | e | e <;> rw [e] <;> simp
  · have := r1 (Or.inl e); omega
  · have := r1 (Or.inr e); omega
  · have := r2 (Or.inl e); omega
  · have := r2 (Or.inr e); omega
theorem kF_le {s : Stc} (h : CellOk s) {i : Nat} (hi : i < ofM s) : kF s i ≤ 12 := by
  obtain ⟨r1, r2⟩ := h.rng
  have := h.small
  unfold kF
  rcases h.kind with e | e | e | e | e | e | e <;> rw [e] <;> simp
  · omega
  · omega
  · have := r2 (Or.inl e); split <;> omega
  · have := r2 (Or.inr e); split <;> omega
theorem frI_len {s : Stc} (h : CellOk s) (at_ : Nat) : ∀ i, i ≤ ofM s → (frI s at_ i).length ≤ 12 * i
  | 0, _ => Nat.le_refl _
  | i + 1, hi => by
    rw [frI_next, List.length_append, prsI_len]
    have := frI_len h at_ i (by omega)
    have := kF_le h (show i < ofM s by omega)
    omega
theorem runO_len {l : List Stc} (hl : ∀ s ∈ l, CellOk s) : ∀ k, k ≤ l.length → (runO l k).nd ≤ 12 * k ∧ ((runO l k).to_.length : Int) = sumU (l.take k) ∧ (runO l k).fr.length ≤ 144 * k
  | 0, _ => ⟨Nat.le_refl _, by simp [runO_zero, sumU], Nat.le_refl _⟩
  | k + 1, hk => by
    obtain ⟨h1, h2, h3⟩ := runO_len hl k (by omega)
    have hx : l[k]? = some l[k] := List.getElem?_eq_getElem (by omega)
    have hc := hl _ (List.getElem_mem (show k < l.length by omega))
    have hsm := hc.small
    have hf := frI_len hc (runO l k).to_.length (ofM l[k]) (Nat.le_refl _)
    rw [runO_next hx]
    unfold stepO
    refine ⟨by simp only; omega, ?_, ?_⟩
    · simp only
      rw [List.length_append, toI_len]
      unfold sumU at h2 ⊢
      rw [sum_take hx, ← hc.uses, ← h2]
      omega
    · simp only
      rw [List.length_append]
      have : 12 * ofM l[k] ≤ 144 := by omega
      omega
/-! The memory: the shift's box, its two rows. -/
theorem info_prT : (Try.prog.info? 63).map (fun i => (i.zero, i.size, i.bytes)) = some (some (.agg #[.int .i64 0, .int .i64 0]), 2, 16) := by kernel_rfl
def pxP (v : Value) (l : List (Int × Int)) : Own := ⟨63, 2, l.length, v, (l.map prC).flatten⟩
theorem cells_two (l : List (Int × Int)) : ∀ cs ∈ l.map prC, cs.length = 2 := fun cs h => by
  obtain ⟨p, _, rfl⟩ := List.mem_map.1 h
  rfl
abbrev prB (p : Int × Int) : Obj := .cells #[.int .i64 p.1, .int .i64 p.2] 63
theorem pxP_app {w : World} {B c : Nat} {a : Option Addr} {l : List (Int × Int)} {L : List Own} (h : Owns w B (pxP (.slice a l.length c) l :: L)) (hB : B ≤ w.heap.size) (hl : l.length ≤ 100000) (p : Int × Int) :
    ∃ A' c' w', (Builtin.append_ #[23, 23] 23 #[.slice a l.length c, .slice (some ⟨w.heap.size, 0, none⟩) 1 1]).run Try.prog (w.alloc (prB p)) = .ok (.slice A' (l.length + 1) c') w' ∧ Owns w' B (pxP (.slice A' (l.length + 1) c') (l ++ [p]) :: L) ∧ Below B w w' := by
  obtain ⟨ii, hii, hii0, hii1, hii2⟩ := info_parts info_prT
  have hal := al_t w (prB p)
  have h9 := h.to hal
  have h0 : (w.alloc (prB p)).ownsRow B 63 2 (.slice a l.length c) l.length (l.map prC).flatten := h9.head
  have hsz := hal.size
  have hnew : ∀ j u, (prC p)[j]? = some u → (w.alloc (prB p)).cell? ((⟨w.heap.size, 0, none⟩ : Addr).add j) = some u := newsT w _ _ _ rfl
  obtain ⟨A', c', w', hr, ho, hg, hn⟩ := run_app_any Try.underlying23 hii hii0 hii1 hii2 rfl (by decide) h0 (some ⟨w.heap.size, 0, none⟩) 1 1 (prC p) rfl (fun e => by cases e) (fun ad e => by cases e; exact hnew) (fun u hu => by
    simp only [List.mem_cons, List.not_mem_nil, or_false] at hu
    rcases hu with rfl | rfl <;> rfl) (by unfold maxLen; omega) (by omega) (by omega)
  refine ⟨A', c', w', hr, ?_, (hal.mono hB).trans (Below.of_grown hg (by omega) (fun k e => (World.ownsRow.lt h0 k e).1))⟩
  refine h9.turn (o' := pxP (.slice A' (l.length + 1) c') (l ++ [p])) hg ?_ hn
  unfold pxP Own.lies
  rw [List.length_append, List.map_append, List.flatten_append]
  simpa using ho
theorem pxP_form {w : World} {B : Nat} {v : Value} {l : List (Int × Int)} {L : List Own} (h : Owns w B (pxP v l :: L)) : ∃ a c, v = .slice a l.length c := by
  obtain ⟨a, c, e, -⟩ := own_slice h.head
  exact ⟨a, c, e⟩
theorem pxP_sl {w : World} {B : Nat} {a : Option Addr} {c : Nat} {l : List (Int × Int)} {L : List Own} (h : Owns w B (pxP (.slice a l.length c) l :: L)) : SlPr w w.heap.size a l := by
  have h0 : w.ownsRow B 63 2 (.slice a l.length c) l.length (l.map prC).flatten := h.head
  exact SlS.of_own (cells_two l) (by rw [List.length_map]) h0
def sfO (sb : Nat) (vt vf : Value) : Own := ⟨25, 2, 1, .slice (some ⟨sb, 0, none⟩) 1 1, [vt, vf]⟩
def stO (cb : Nat) (s : Stc) : Own := ⟨66, 4, 1, .slice (some ⟨cb, 0, none⟩) 1 1, s.cells⟩
theorem box_new (w : World) (T : TypeId) (cs : List Value) : w.heap.size = w.heap.size → (w.alloc (.cells cs.toArray T)).ownsRow w.heap.size T cs.length (.slice (some ⟨w.heap.size, 0, none⟩) 1 1) 1 cs := fun _ => by
  have e : (w.alloc (.cells cs.toArray T)).heap[w.heap.size]? = some (.cells cs.toArray T (0, 0)) := Array.getElem?_push_size
  have := own_of_whole (B := w.heap.size) (n := 1) (c := 1) (sz := cs.length) e (Nat.le_refl _) (Nat.le_refl _) (by unfold maxLen; omega) (by simp)
  simpa using this
theorem sfO_at {w : World} {B sb : Nat} {vt vf : Value} (h : (sfO sb vt vf).lies w B) : w.cell? ⟨sb, 0, none⟩ = some vt ∧ w.cell? ⟨sb, 1, none⟩ = some vf ∧ ∀ k, w.frozen? ⟨sb, k, none⟩ = false := by
  have h0 : w.ownsRow B 25 2 (.slice (some ⟨sb, 0, none⟩) 1 1) 1 [vt, vf] := h
  exact ⟨h0.cellAt 0 (by decide), h0.cellAt 1 (by decide), fun k => h0.frozenAt k⟩
theorem stO_at {w : World} {B cb : Nat} {s : Stc} (h : (stO cb s).lies w B) : w.cell? ⟨cb, 0, none⟩ = some (.int .u8 s.kind) ∧ w.cell? ⟨cb, 1, none⟩ = some (.bool s.purl) ∧ w.cell? ⟨cb, 2, none⟩ = some (.int .i64 s.a) ∧ w.cell? ⟨cb, 3, none⟩ = some (.int .i64 s.b) := by
  have h0 : w.ownsRow B 66 4 (.slice (some ⟨cb, 0, none⟩) 1 1) 1 s.cells := h
  exact ⟨h0.cellAt 0 (by decide), h0.cellAt 1 (by decide), h0.cellAt 2 (by decide), h0.cellAt 3 (by decide)⟩
theorem sfO_set {w : World} {B sb : Nat} {vt vf : Value} {L : List Own} (h : Owns w B (sfO sb vt vf :: L)) (k : Nat) (y : Value) : Owns (w.setCell ⟨sb, k, none⟩ y) B (⟨25, 2, 1, .slice (some ⟨sb, 0, none⟩) 1 1, [vt, vf].set k y⟩ :: L) := by
  have h0 : w.ownsRow B 25 2 (.slice (some ⟨sb, 0, none⟩) 1 1) 1 [vt, vf] := h.head
  obtain ⟨h1, h2⟩ := World.ownsRow.stored h0 k y
  exact h.turn h2 h1 (fun k hk => Or.inl hk)
theorem sfO_below {w : World} {B sb : Nat} {vt vf : Value} {L : List Own} (h : Owns w B (sfO sb vt vf :: L)) (hB : B ≤ w.heap.size) (k : Nat) (y : Value) : Below B w (w.setCell ⟨sb, k, none⟩ y) := by
  have h0 : w.ownsRow B 25 2 (.slice (some ⟨sb, 0, none⟩) 1 1) 1 [vt, vf] := h.head
  exact Below.of_grown (grown_setAt w sb k y) hB (fun k e => by cases e; exact (World.ownsRow.lt h0 _ rfl).1)
/-- A load under another name. -/
def ldOq (t : TypeId) (x : Operand) : Op := Op.load t x
theorem at_worldq {P : Program} {ops : Array Oper} {o : Oper} {a : Act} {K : Act → World → Prop} {Q : Exit → Act → World → Prop} {E : Prop} (w : World) (h : if Region.wanted o (yielded ops a.tmps) = true then Oper.wp P o a w K Q else E) : if Region.wanted o (yielded ops a.tmps) = true then Oper.wp P o a w K Q else E := h
theorem own_box_ne {w : World} {B sb cb : Nat} {vt vf a b : Value} {l : List Int} {r : List (Int × Int)} {s : Stc} (h : Owns w B (sfO sb vt vf :: pxJ a l :: pxP b r :: [stO cb s])) : sb ≠ cb := fun e => by
  subst e
  have := (List.pairwise_cons.1 h.apart).1 (stO sb s) (by simp) sb rfl
  exact this rfl
structure OfA (W1 : World) (sb : Nat) (to_ : List Int) (fr : List (Int × Int)) (vt vf : Value) (X : List Own) (W : World) : Prop where
  own : Owns W W1.heap.size (sfO sb vt vf :: pxJ vt to_ :: pxP vf fr :: X)
  lo : Below W1.heap.size W1 W
section
variable {W1 W : World} {sb : Nat} {to_ : List Int} {fr : List (Int × Int)} {vt vf : Value} {X : List Own}
theorem OfA.to (h : OfA W1 sb to_ fr vt vf X W) {W' : World} (hb : Below W.heap.size W W') : OfA W1 sb to_ fr vt vf X W' := ⟨h.own.to hb, h.lo.trans (hb.mono h.lo.size)⟩
theorem OfA.forms (h : OfA W1 sb to_ fr vt vf X W) : (∃ a c, vt = .slice a to_.length c) ∧ ∃ a c, vf = .slice a fr.length c := ⟨pxJ_form h.own.tail, pxP_form h.own.tail.tail⟩
theorem OfA.cell (h : OfA W1 sb to_ fr vt vf X W) : W.cell? ⟨sb, 0, none⟩ = some vt ∧ W.cell? ⟨sb, 1, none⟩ = some vf ∧ ∀ k, W.frozen? ⟨sb, k, none⟩ = false := sfO_at h.own.head
theorem OfA.pushTo {a : Option Addr} {c : Nat} (h : OfA W1 sb to_ fr (.slice a to_.length c) vf X W) (hl : to_.length ≤ 100000) (x : Int) :
    ∃ A' c' w', (Builtin.append_ #[22, 22] 22 #[.slice a to_.length c, .slice (some ⟨W.heap.size, 0, none⟩) 1 1]).run Try.prog (W.alloc (.cells #[.int .i64 x] 3)) = .ok (.slice A' (to_.length + 1) c') w' ∧
      w'.cell? ⟨sb, 0, none⟩ = some (.slice a to_.length c) ∧ (∀ k, w'.frozen? ⟨sb, k, none⟩ = false) ∧ OfA W1 sb (to_ ++ [x]) fr (.slice A' (to_.length + 1) c') vf X (w'.setCell ⟨sb, 0, none⟩ (.slice A' (to_.length + 1) c')) := by
  obtain ⟨A', c', w', hr, ho, hb⟩ := pxJ_app h.own.swap h.lo.size hl x
  have ho' := ho.swap
  obtain ⟨q0, -, q1⟩ := sfO_at ho'.head
  refine ⟨A', c', w', hr, q0, q1, sfO_set ho' 0 _, h.lo.trans (hb.trans (sfO_below ho' (Nat.le_trans h.lo.size hb.size) 0 _))⟩
theorem OfA.pushFr {a : Option Addr} {c : Nat} (h : OfA W1 sb to_ fr vt (.slice a fr.length c) X W) (hl : fr.length ≤ 100000) (p : Int × Int) :
    ∃ A' c' w', (Builtin.append_ #[23, 23] 23 #[.slice a fr.length c, .slice (some ⟨W.heap.size, 0, none⟩) 1 1]).run Try.prog (W.alloc (.cells #[.int .i64 p.1, .int .i64 p.2] 63)) = .ok (.slice A' (fr.length + 1) c') w' ∧
      w'.cell? ⟨sb, 1, none⟩ = some (.slice a fr.length c) ∧ (∀ k, w'.frozen? ⟨sb, k, none⟩ = false) ∧ OfA W1 sb to_ (fr ++ [p]) vt (.slice A' (fr.length + 1) c') X (w'.setCell ⟨sb, 1, none⟩ (.slice A' (fr.length + 1) c')) := by
  have hp : Owns W W1.heap.size (pxP (.slice a fr.length c) fr :: sfO sb vt (.slice a fr.length c) :: pxJ vt to_ :: X) := h.own.perm ((List.Perm.cons _ (List.Perm.swap _ _ _)).trans (List.Perm.swap _ _ _))
  obtain ⟨A', c', w', hr, ho, hb⟩ := pxP_app hp h.lo.size hl p
  have ho' : Owns w' W1.heap.size (sfO sb vt (.slice a fr.length c) :: pxJ vt to_ :: pxP (.slice A' (fr.length + 1) c') (fr ++ [p]) :: X) := ho.perm ((List.Perm.swap _ _ _).trans (List.Perm.cons _ (List.Perm.swap _ _ _)))
  obtain ⟨-, q0, q1⟩ := sfO_at ho'.head
  exact ⟨A', c', w', hr, q0, q1, sfO_set ho' 1 _, h.lo.trans (hb.trans (sfO_below ho' (Nat.le_trans h.lo.size hb.size) 1 _))⟩
theorem OfA.boxed (h : OfA W1 sb to_ fr vt vf X W) (s : Stc) : OfA W1 sb to_ fr vt vf (stO W.heap.size s :: X) (W.alloc (.cells #[.int .u8 s.kind, .bool s.purl, .int .i64 s.a, .int .i64 s.b] 66)) := by
  have hal := al_t W (.cells #[.int .u8 s.kind, .bool s.purl, .int .i64 s.a, .int .i64 s.b] 66)
  have hn := box_new W 66 s.cells rfl
  refine ⟨(h.own.add (o := stO W.heap.size s) hal h.lo.size hn).perm ?_, h.lo.trans (hal.mono h.lo.size)⟩
  exact (List.Perm.swap _ _ _).trans (List.Perm.cons _ ((List.Perm.swap _ _ _).trans (List.Perm.cons _ (List.Perm.swap _ _ _))))
theorem OfA.sub (h : OfA W1 sb to_ fr vt vf X W) {X' : List Own} (hs : X'.Sublist X) : OfA W1 sb to_ fr vt vf X' W := ⟨h.own.sub (List.Sublist.cons_cons _ (List.Sublist.cons_cons _ (List.Sublist.cons_cons _ hs))), h.lo⟩
end
end Go.Proofs.Ytflpikickbellaa
