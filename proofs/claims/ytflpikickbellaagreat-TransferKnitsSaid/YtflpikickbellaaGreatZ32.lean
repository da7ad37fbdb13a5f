/- Layer 32. -/
import Derived.Test.YtflpikickbellaaGreatZ14
namespace Go.Proofs.YtflpikickbellaaGreat
open Go.RowKit Go.Shelf Go.Sort
set_option maxRecDepth 100000
def bxO (T : TypeId) (b : Nat) (x : Value) : Own := ⟨T, 1, 1, .slice (some ⟨b, 0, none⟩) 1 1, [x]⟩
theorem bxO_at {w : World} {B : Nat} {T : TypeId} {b : Nat} {x : Value} (h : (bxO T b x).lies w B) : w.cell? ⟨b, 0, none⟩ = some x ∧ w.frozen? ⟨b, 0, none⟩ = false := by
 have h0 : w.ownsRow B T 1 (.slice (some ⟨b, 0, none⟩) 1 1) 1 [x] := h
 exact ⟨h0.cellAt 0 (by decide), h0.frozenAt 0⟩
theorem bxO_new (w : World) (T : TypeId) (x : Value) : (bxO T w.heap.size x).lies (w.alloc (.cells #[x] T)) w.heap.size := by
 have e : (w.alloc (.cells #[x] T)).heap[w.heap.size]? = some (.cells #[x] T (0, 0)) := Array.getElem?_push_size
 have := own_of_whole (B := w.heap.size) (n := 1) (c := 1) (sz := 1) e (Nat.le_refl _) (Nat.le_refl _) (by unfold maxLen; omega) rfl
 exact this
theorem bxO_set {w : World} {B : Nat} {T : TypeId} {b : Nat} {x : Value} {L : List Own} (h : Owns w B (bxO T b x :: L)) (y : Value) : Owns (w.setCell ⟨b, 0, none⟩ y) B (bxO T b y :: L) := by
 have h0 : w.ownsRow B T 1 (.slice (some ⟨b, 0, none⟩) 1 1) 1 [x] := h.head
 obtain ⟨h1, h2⟩ := World.ownsRow.stored h0 0 y
 exact h.turn (o' := bxO T b y) h2 h1 (fun k hk => Or.inl hk)
theorem bxO_grown {w : World} {B : Nat} {T : TypeId} {b : Nat} {x : Value} {L : List Own} (h : Owns w B (bxO T b x :: L)) (hB : B ≤ w.heap.size) (y : Value) : Below B w (w.setCell ⟨b, 0, none⟩ y) := by
 have h0 : w.ownsRow B T 1 (.slice (some ⟨b, 0, none⟩) 1 1) 1 [x] := h.head
 exact Below.of_grown (grown_setAt w b 0 y) hB (fun k e => by cases e; exact (World.ownsRow.lt h0 _ rfl).1)
theorem plm_push {w : World} {B ob c : Nat} {a : Option Addr} {O : List Ins} {L : List Own} (h : Owns w B (bxO 29 ob (.slice a O.length c) :: pxO (.slice a O.length c) O :: L)) (hB : B ≤ w.heap.size) (hl : O.length ≤ 100000) (x : Ins) :
 ∃ A' c' w', (Builtin.append_ #[29, 29] 29 #[.slice a O.length c, .slice (some ⟨w.heap.size, 0, none⟩) 1 1]).run Tryz.prog (w.alloc (insB x)) = .ok (.slice A' (O.length + 1) c') w' ∧
   w'.cell? ⟨ob, 0, none⟩ = some (.slice a O.length c) ∧ w'.frozen? ⟨ob, 0, none⟩ = false ∧ Owns (w'.setCell ⟨ob, 0, none⟩ (.slice A' (O.length + 1) c')) B (bxO 29 ob (.slice A' (O.length + 1) c') :: pxO (.slice A' (O.length + 1) c') (O ++ [x]) :: L) ∧
   Below B w (w'.setCell ⟨ob, 0, none⟩ (.slice A' (O.length + 1) c')) := by
 obtain ⟨A', c', w', hr, ho, hb⟩ := pxO_app h.swap hB hl x
 have ho' := ho.swap
 obtain ⟨q0, q1⟩ := bxO_at ho'.head
 exact ⟨A', c', w', hr, q0, q1, bxO_set ho' _, hb.trans (bxO_grown ho' (Nat.le_trans hB hb.size) _)⟩
def PlO (rb ob : Nat) (now : Int) (v vs : Value) (O : List Ins) (ms : List Int) : List Own := [bxO 3 rb (.int .i64 now), bxO 29 ob v, pxO v O, pxJ vs ms]
def TnPost (w : World) (B rb ob : Nat) (to_ : Int) (vs : Value) (O : List Ins) (ms : List Int) (e : Ending) (w' : World) : Prop :=
 e = .returned (.tuple #[]) ∧ (∃ v, Owns w' B (PlO rb ob to_ v vs O ms)) ∧ Below B w w'
set_option maxHeartbeats 4000000 in
theorem pturn_any (B rb ob : Nat) (now to_ : Int) (v vs : Value) (O : List Ins) (ms : List Int) (w : World) (hB : B ≤ w.heap.size) (hl : O.length ≤ 1000) (h : Owns w B (PlO rb ob now v vs O ms)) :
 Calls Tryz.prog 28 #[.int .i64 to_, .pointer (some ⟨rb, 0, none⟩), .pointer (some ⟨ob, 0, none⟩)] w fun e w' => TnPost w B rb ob to_ vs (O ++ turnI now to_) ms e w' := by
 unfold PlO at h
 obtain ⟨a, c, rfl⟩ := pxO_form h.tail.tail
 obtain ⟨r0, r1⟩ := bxO_at h.head
 obtain ⟨o0, o1⟩ := bxO_at h.tail.head
 by_cases e : to_ = now
 case pos =>
  have d : (now != to_) = false := by simp [e]
  have HP : Hid (TnPost w B rb ob to_ vs (O ++ turnI now to_) ms (.returned (.tuple #[])) w) := by
   refine ⟨rfl, ⟨.slice a O.length c, ?_⟩, Below.refl _ _⟩
   unfold turnI
   rw [if_pos e, List.append_nil, e]
   exact h
  clear h e o0 o1
  go_enter Tryz.func28, Tryz.ntmps28
  go_wp2
  refine bodyPost_end (results_none rfl _ _ _) rfl ?_
  exact HP.out
 case neg =>
  have d : (now != to_) = true := by simpa using fun h => e h.symm
  have hp : Owns w B (bxO 29 ob (.slice a O.length c) :: pxO (.slice a O.length c) O :: bxO 3 rb (.int .i64 now) :: [pxJ vs ms]) := h.perm ((List.Perm.swap _ _ _).trans (List.Perm.cons _ (List.Perm.swap _ _ _)))
  obtain ⟨A', c', w', hr, q0, q1, ho, hb⟩ := plm_push hp hB (by omega) (rackI to_)
  have hr9 : (Builtin.append_ #[29, 29] 29 #[.slice a O.length c, .slice (some ⟨w.heap.size, 0, none⟩) 1 1]).run Tryz.prog (w.alloc (.cells #[.int .u8 8, .bool false, .int .u8 0, .int .i64 0, .int .i64 0, .int .i64 0, .int .i64 to_] 63)) = .ok (.slice A' (O.length + 1) c') w' := hr
  have ho2 : Owns (w'.setCell ⟨ob, 0, none⟩ (.slice A' (O.length + 1) c')) B (bxO 3 rb (.int .i64 now) :: [bxO 29 ob (.slice A' (O.length + 1) c'), pxO (.slice A' (O.length + 1) c') (O ++ [rackI to_]), pxJ vs ms]) := ho.perm ((List.Perm.cons _ (List.Perm.swap _ _ _)).trans (List.Perm.swap _ _ _))
  obtain ⟨s0, s1⟩ := bxO_at ho2.head
  have HP : Hid (TnPost w B rb ob to_ vs (O ++ turnI now to_) ms (.returned (.tuple #[])) ((w'.setCell ⟨ob, 0, none⟩ (.slice A' (O.length + 1) c')).setCell ⟨rb, 0, none⟩ (.int .i64 to_))) := by
   refine ⟨rfl, ⟨.slice A' (O.length + 1) c', ?_⟩, hb.trans (bxO_grown ho2 (Nat.le_trans hB hb.size) _)⟩
   unfold turnI
   rw [if_neg e]
   exact bxO_set ho2 _
  clear h hp ho ho2 hb hr e o1
  go_enter Tryz.func28, Tryz.ntmps28
  go_wp2_with (at_builtin; refine wpList_append_run _ rfl _ _ _ _ rfl _ _ (by rfl) (by rfl) hr9 ?_)
  refine bodyPost_end (results_none rfl _ _ _) rfl ?_
  exact HP.out
def ofM (s : Stc) : Nat := if s.kind = 2 then 0 else if s.kind = 3 ∨ s.kind = 4 then s.a.toNat else if s.kind = 6 ∨ s.kind = 7 then (s.a + s.b).toNat else 1
def ofG (s : Stc) : Nat := if s.kind = 6 ∨ s.kind = 7 then (s.a + s.b).toNat else 1
def toF (s : Stc) (nd i : Nat) : Int := if s.kind = 6 ∨ s.kind = 7 then (nd : Int) + ((i : Int) + s.b) % (s.a + s.b) else nd
def kF (s : Stc) (i : Nat) : Nat := if s.kind = 3 ∨ s.kind = 4 then i else if s.kind = 6 ∨ s.kind = 7 then (if s.a ≤ (i : Int) then s.a.toNat else 0) else 0
def swF (s : Stc) : Bool := decide (s.kind = 4 ∨ s.kind = 7)
def swP (sw : Bool) (p : Int × Int) : Int × Int := if sw then (p.2, p.1) else p
def prI (s : Stc) (at_ i k : Nat) : Int × Int := swP (swF s) ((at_ : Int) + (k : Int), (at_ : Int) + (i : Int))
def prsI (s : Stc) (at_ i k : Nat) : List (Int × Int) := (List.range k).map (prI s at_ i)
def frI (s : Stc) (at_ i : Nat) : List (Int × Int) := (List.range i).flatMap fun j => prsI s at_ j (kF s j)
def toI (s : Stc) (nd i : Nat) : List Int := (List.range i).map (toF s nd)
theorem prsI_next (s : Stc) (at_ i k : Nat) : prsI s at_ i (k + 1) = prsI s at_ i k ++ [prI s at_ i k] := by unfold prsI; rw [List.range_succ, List.map_append]; rfl
theorem frI_next (s : Stc) (at_ i : Nat) : frI s at_ (i + 1) = frI s at_ i ++ prsI s at_ i (kF s i) := by unfold frI; rw [List.range_succ, List.flatMap_append]; simp
theorem toI_next (s : Stc) (nd i : Nat) : toI s nd (i + 1) = toI s nd i ++ [toF s nd i] := by unfold toI; rw [List.range_succ, List.map_append]; rfl
theorem toI_len (s : Stc) (nd i : Nat) : (toI s nd i).length = i := by unfold toI; rw [List.length_map, List.length_range]
theorem prsI_len (s : Stc) (at_ i k : Nat) : (prsI s at_ i k).length = k := by unfold prsI; rw [List.length_map, List.length_range]
structure OfT where
 nd : Nat
 to_ : List Int
 fr : List (Int × Int)
def stepO (t : OfT) (s : Stc) : OfT := ⟨t.nd + ofG s, t.to_ ++ toI s t.nd (ofM s), t.fr ++ frI s t.to_.length (ofM s)⟩
def runO (l : List Stc) (k : Nat) : OfT := (l.take k).foldl stepO ⟨0, [], []⟩
theorem runO_zero (l : List Stc) : runO l 0 = ⟨0, [], []⟩ := rfl
theorem runO_next {l : List Stc} {k : Nat} {s : Stc} (h : l[k]? = some s) : runO l (k + 1) = stepO (runO l k) s := by
 obtain ⟨hk, e⟩ := List.getElem?_eq_some_iff.1 h
 unfold runO
 rw [List.take_succ_eq_append_getElem hk, e, List.foldl_append]
 rfl
def kindB (s : Stc) : Bool := decide (s.kind = 5) || decide (9 ≤ s.kind)
def sortP (l : List (Int × Int)) : List (Int × Int) := l.mergeSort fun x y => !(decide (cmpP y x < 0))
def farB (to_ : List Int) : Bool := (List.range to_.length).any fun i => decide (8 < max (to_.getD i 0 - (i : Int)) ((i : Int) - to_.getD i 0))
def ofE (l : List Stc) : Sft × Int :=
 if allE l ≠ 0 then (⟨[], []⟩, allE l) else if l.any kindB then (⟨[], []⟩, 2) else if 40 < sumU l then (⟨[], []⟩, 4)
 else if farB (runO l l.length).to_ then (⟨[], []⟩, 16) else (⟨(runO l l.length).to_, sortP (runO l l.length).fr⟩, 0)
structure CellOk (s : Stc) : Prop where
 ok : s.ok = true
 kind : s.kind = 1 ∨ s.kind = 2 ∨ s.kind = 3 ∨ s.kind = 4 ∨ s.kind = 6 ∨ s.kind = 7 ∨ s.kind = 8
theorem cell_ok {s : Stc} (h : s.ok = true) (hk : kindB s = false) : CellOk s := by
 refine ⟨h, ?_⟩
 unfold Stc.ok at h
 rw [Bool.and_eq_true, decide_eq_true_eq] at h
 unfold kindB at hk
 rw [Bool.or_eq_false_iff, decide_eq_false_iff_not, decide_eq_false_iff_not] at hk
 omega
theorem CellOk.rng {s : Stc} (h : CellOk s) : (s.kind = 3 ∨ s.kind = 4 → 2 ≤ s.a ∧ s.a ≤ 4) ∧ (s.kind = 6 ∨ s.kind = 7 → 1 ≤ s.a ∧ s.a ≤ 6 ∧ 1 ≤ s.b ∧ s.b ≤ 6) := by
 have h1 := h.ok
 unfold Stc.ok at h1
 simp only [Bool.and_eq_true, decide_eq_true_eq] at h1
 obtain ⟨-, ⟨h2, h3⟩, ⟨h4, h5⟩, -⟩ := h1
 refine ⟨?_, ?_⟩
 · rintro (e | e) <;> rw [e] at h2 h3
   · have : formI 3 = formT[2] := rfl
     rw [this] at h2 h3
     exact ⟨h2, h3⟩
   · have : formI 4 = formT[3] := rfl
     rw [this] at h2 h3
     exact ⟨h2, h3⟩
 · rintro (e | e) <;> rw [e] at h2 h3 h4 h5
   · have : formI 6 = formT[5] := rfl
     rw [this] at h2 h3 h4 h5
     exact ⟨h2, h3, h4, h5⟩
   · have : formI 7 = formT[6] := rfl
     rw [this] at h2 h3 h4 h5
     exact ⟨h2, h3, h4, h5⟩
theorem CellOk.uses {s : Stc} (h : CellOk s) : (ofM s : Int) = usesS s := by
 obtain ⟨r1, r2⟩ := h.rng
 unfold usesS ofM
 rcases h.kind with e | e | e | e | e | e | e <;> rw [e]
 · rfl
 · rfl
 · have := r1 (Or.inl e)
   have e2 : loopsI s (formI 3).uses = s.a := rfl
   rw [e2]; simp; omega
 · have := r1 (Or.inr e)
   have e2 : loopsI s (formI 4).uses = s.a := rfl
   rw [e2]; simp; omega
 · have := r2 (Or.inl e)
   have e2 : loopsI s (formI 6).uses = s.a + s.b := rfl
   rw [e2]; simp; omega
 · have := r2 (Or.inr e)
   have e2 : loopsI s (formI 7).uses = s.a + s.b := rfl
   rw [e2]; simp; omega
 · rfl
theorem CellOk.small {s : Stc} (h : CellOk s) : ofM s ≤ 12 ∧ ofG s ≤ 12 := by
 obtain ⟨r1, r2⟩ := h.rng
 unfold ofM ofG
 rcases h.kind with e | e | e | e | e | e | e <;> rw [e] <;> simp
 · have := r1 (Or.inl e); omega
 · have := r1 (Or.inr e); omega
 · have := r2 (Or.inl e); omega
 · have := r2 (Or.inr e); omega
theorem kF_le {s : Stc} (h : CellOk s) {i : Nat} (hi : i < ofM s) : kF s i ≤ 12 := by
 obtain ⟨r1, r2⟩ := h.rng
 have := h.small
 unfold kF
 rcases h.kind with e | e | e | e | e | e | e <;> rw [e] <;> simp
 · omega
 · omega
 · have := r2 (Or.inl e); split <;> omega
 · have := r2 (Or.inr e); split <;> omega
theorem frI_len {s : Stc} (h : CellOk s) (at_ : Nat) : ∀ i, i ≤ ofM s → (frI s at_ i).length ≤ 12 * i
 | 0, _ => Nat.le_refl _
 | i + 1, hi => by
   rw [frI_next, List.length_append, prsI_len]
   have := frI_len h at_ i (by omega)
   have := kF_le h (show i < ofM s by omega)
   omega
theorem runO_len {l : List Stc} (hl : ∀ s ∈ l, CellOk s) : ∀ k, k ≤ l.length → (runO l k).nd ≤ 12 * k ∧ ((runO l k).to_.length : Int) = sumU (l.take k) ∧ (runO l k).fr.length ≤ 144 * k
 | 0, _ => ⟨Nat.le_refl _, by simp [runO_zero, sumU], Nat.le_refl _⟩
 | k + 1, hk => by
   obtain ⟨h1, h2, h3⟩ := runO_len hl k (by omega)
   have hx : l[k]? = some l[k] := List.getElem?_eq_getElem (by omega)
   have hc := hl _ (List.getElem_mem (show k < l.length by omega))
   have hsm := hc.small
   have hf := frI_len hc (runO l k).to_.length (ofM l[k]) (Nat.le_refl _)
   rw [runO_next hx]
   unfold stepO
   refine ⟨by simp only; omega, ?_, ?_⟩
   · simp only
     rw [List.length_append, toI_len]
     unfold sumU at h2 ⊢
     rw [sum_take hx, ← hc.uses, ← h2]
     omega
   · simp only
     rw [List.length_append]
     have : 12 * ofM l[k] ≤ 144 := by omega
     omega
theorem info_prT : (Tryz.prog.info? 48).map (fun i => (i.zero, i.size, i.bytes)) = some (some (.agg #[.int .i64 0, .int .i64 0]), 2, 16) := by kernel_rfl
def pxP (v : Value) (l : List (Int × Int)) : Own := ⟨48, 2, l.length, v, (l.map prC).flatten⟩
theorem cells_two (l : List (Int × Int)) : ∀ cs ∈ l.map prC, cs.length = 2 := fun cs h => by
 obtain ⟨p, _, rfl⟩ := List.mem_map.1 h
 rfl
abbrev prB (p : Int × Int) : Obj := .cells #[.int .i64 p.1, .int .i64 p.2] 48
theorem pxP_app {w : World} {B c : Nat} {a : Option Addr} {l : List (Int × Int)} {L : List Own} (h : Owns w B (pxP (.slice a l.length c) l :: L)) (hB : B ≤ w.heap.size) (hl : l.length ≤ 100000) (p : Int × Int) :
 ∃ A' c' w', (Builtin.append_ #[23, 23] 23 #[.slice a l.length c, .slice (some ⟨w.heap.size, 0, none⟩) 1 1]).run Tryz.prog (w.alloc (prB p)) = .ok (.slice A' (l.length + 1) c') w' ∧ Owns w' B (pxP (.slice A' (l.length + 1) c') (l ++ [p]) :: L) ∧ Below B w w' := by
 obtain ⟨ii, hii, hii0, hii1, hii2⟩ := info_parts info_prT
 have hal := al_t w (prB p)
 have h9 := h.to hal
 have h0 : (w.alloc (prB p)).ownsRow B 48 2 (.slice a l.length c) l.length (l.map prC).flatten := h9.head
 have hsz := hal.size
 have hnew : ∀ j u, (prC p)[j]? = some u → (w.alloc (prB p)).cell? ((⟨w.heap.size, 0, none⟩ : Addr).add j) = some u := newsT w _ _ _ rfl
 obtain ⟨A', c', w', hr, ho, hg, hn⟩ := run_app_any Tryz.underlying23 hii hii0 hii1 hii2 rfl (by decide) h0 (some ⟨w.heap.size, 0, none⟩) 1 1 (prC p) rfl (fun e => by cases e) (fun ad e => by cases e; exact hnew) (fun u hu => by
  simp only [List.mem_cons, List.not_mem_nil, or_false] at hu
  rcases hu with rfl | rfl <;> rfl) (by unfold maxLen; omega) (by omega) (by omega)
 refine ⟨A', c', w', hr, ?_, (hal.mono hB).trans (Below.of_grown hg (by omega) (fun k e => (World.ownsRow.lt h0 k e).1))⟩
 refine h9.turn (o' := pxP (.slice A' (l.length + 1) c') (l ++ [p])) hg ?_ hn
 unfold pxP Own.lies
 rw [List.length_append, List.map_append, List.flatten_append]
 simpa using ho
theorem pxP_form {w : World} {B : Nat} {v : Value} {l : List (Int × Int)} {L : List Own} (h : Owns w B (pxP v l :: L)) : ∃ a c, v = .slice a l.length c := by
 obtain ⟨a, c, e, -⟩ := own_slice h.head
 exact ⟨a, c, e⟩
def sfO (sb : Nat) (vt vf : Value) : Own := ⟨25, 2, 1, .slice (some ⟨sb, 0, none⟩) 1 1, [vt, vf]⟩
def stO (cb : Nat) (s : Stc) : Own := ⟨96, 4, 1, .slice (some ⟨cb, 0, none⟩) 1 1, s.cells⟩
theorem box_new (w : World) (T : TypeId) (cs : List Value) : w.heap.size = w.heap.size → (w.alloc (.cells cs.toArray T)).ownsRow w.heap.size T cs.length (.slice (some ⟨w.heap.size, 0, none⟩) 1 1) 1 cs := fun _ => by
 have e : (w.alloc (.cells cs.toArray T)).heap[w.heap.size]? = some (.cells cs.toArray T (0, 0)) := Array.getElem?_push_size
 have := own_of_whole (B := w.heap.size) (n := 1) (c := 1) (sz := cs.length) e (Nat.le_refl _) (Nat.le_refl _) (by unfold maxLen; omega) (by simp)
 simpa using this
theorem sfO_at {w : World} {B sb : Nat} {vt vf : Value} (h : (sfO sb vt vf).lies w B) : w.cell? ⟨sb, 0, none⟩ = some vt ∧ w.cell? ⟨sb, 1, none⟩ = some vf ∧ ∀ k, w.frozen? ⟨sb, k, none⟩ = false := by
 have h0 : w.ownsRow B 25 2 (.slice (some ⟨sb, 0, none⟩) 1 1) 1 [vt, vf] := h
 exact ⟨h0.cellAt 0 (by decide), h0.cellAt 1 (by decide), fun k => h0.frozenAt k⟩
theorem stO_at {w : World} {B cb : Nat} {s : Stc} (h : (stO cb s).lies w B) : w.cell? ⟨cb, 0, none⟩ = some (.int .u8 s.kind) ∧ w.cell? ⟨cb, 1, none⟩ = some (.bool s.purl) ∧ w.cell? ⟨cb, 2, none⟩ = some (.int .i64 s.a) ∧ w.cell? ⟨cb, 3, none⟩ = some (.int .i64 s.b) := by
 have h0 : w.ownsRow B 96 4 (.slice (some ⟨cb, 0, none⟩) 1 1) 1 s.cells := h
 exact ⟨h0.cellAt 0 (by decide), h0.cellAt 1 (by decide), h0.cellAt 2 (by decide), h0.cellAt 3 (by decide)⟩
theorem sfO_set {w : World} {B sb : Nat} {vt vf : Value} {L : List Own} (h : Owns w B (sfO sb vt vf :: L)) (k : Nat) (y : Value) : Owns (w.setCell ⟨sb, k, none⟩ y) B (⟨25, 2, 1, .slice (some ⟨sb, 0, none⟩) 1 1, [vt, vf].set k y⟩ :: L) := by
 have h0 : w.ownsRow B 25 2 (.slice (some ⟨sb, 0, none⟩) 1 1) 1 [vt, vf] := h.head
 obtain ⟨h1, h2⟩ := World.ownsRow.stored h0 k y
 exact h.turn h2 h1 (fun k hk => Or.inl hk)
theorem sfO_below {w : World} {B sb : Nat} {vt vf : Value} {L : List Own} (h : Owns w B (sfO sb vt vf :: L)) (hB : B ≤ w.heap.size) (k : Nat) (y : Value) : Below B w (w.setCell ⟨sb, k, none⟩ y) := by
 have h0 : w.ownsRow B 25 2 (.slice (some ⟨sb, 0, none⟩) 1 1) 1 [vt, vf] := h.head
 exact Below.of_grown (grown_setAt w sb k y) hB (fun k e => by cases e; exact (World.ownsRow.lt h0 _ rfl).1)
def ldOq (t : TypeId) (x : Operand) : Op := Op.load t x
theorem at_worldq {P : Program} {ops : Array Oper} {o : Oper} {a : Act} {K : Act → World → Prop} {Q : Exit → Act → World → Prop} {E : Prop} (w : World) (h : if Region.wanted o (yielded ops a.tmps) = true then Oper.wp P o a w K Q else E) : if Region.wanted o (yielded ops a.tmps) = true then Oper.wp P o a w K Q else E := h
theorem own_box_ne {w : World} {B sb cb : Nat} {vt vf a b : Value} {l : List Int} {r : List (Int × Int)} {s : Stc} (h : Owns w B (sfO sb vt vf :: pxJ a l :: pxP b r :: [stO cb s])) : sb ≠ cb := fun e => by
 subst e
 have := (List.pairwise_cons.1 h.apart).1 (stO sb s) (by simp) sb rfl
 exact this rfl
structure OfA (W1 : World) (sb : Nat) (to_ : List Int) (fr : List (Int × Int)) (vt vf : Value) (X : List Own) (W : World) : Prop where
 own : Owns W W1.heap.size (sfO sb vt vf :: pxJ vt to_ :: pxP vf fr :: X)
 lo : Below W1.heap.size W1 W
section
variable {W1 W : World} {sb : Nat} {to_ : List Int} {fr : List (Int × Int)} {vt vf : Value} {X : List Own}
theorem OfA.to (h : OfA W1 sb to_ fr vt vf X W) {W' : World} (hb : Below W.heap.size W W') : OfA W1 sb to_ fr vt vf X W' := ⟨h.own.to hb, h.lo.trans (hb.mono h.lo.size)⟩
theorem OfA.forms (h : OfA W1 sb to_ fr vt vf X W) : (∃ a c, vt = .slice a to_.length c) ∧ ∃ a c, vf = .slice a fr.length c := ⟨pxJ_form h.own.tail, pxP_form h.own.tail.tail⟩
theorem OfA.cell (h : OfA W1 sb to_ fr vt vf X W) : W.cell? ⟨sb, 0, none⟩ = some vt ∧ W.cell? ⟨sb, 1, none⟩ = some vf ∧ ∀ k, W.frozen? ⟨sb, k, none⟩ = false := sfO_at h.own.head
theorem OfA.pushTo {a : Option Addr} {c : Nat} (h : OfA W1 sb to_ fr (.slice a to_.length c) vf X W) (hl : to_.length ≤ 100000) (x : Int) :
 ∃ A' c' w', (Builtin.append_ #[22, 22] 22 #[.slice a to_.length c, .slice (some ⟨W.heap.size, 0, none⟩) 1 1]).run Tryz.prog (W.alloc (.cells #[.int .i64 x] 3)) = .ok (.slice A' (to_.length + 1) c') w' ∧
   w'.cell? ⟨sb, 0, none⟩ = some (.slice a to_.length c) ∧ (∀ k, w'.frozen? ⟨sb, k, none⟩ = false) ∧ OfA W1 sb (to_ ++ [x]) fr (.slice A' (to_.length + 1) c') vf X (w'.setCell ⟨sb, 0, none⟩ (.slice A' (to_.length + 1) c')) := by
 obtain ⟨A', c', w', hr, ho, hb⟩ := pxJ_app h.own.swap h.lo.size hl x
 have ho' := ho.swap
 obtain ⟨q0, -, q1⟩ := sfO_at ho'.head
 refine ⟨A', c', w', hr, q0, q1, sfO_set ho' 0 _, h.lo.trans (hb.trans (sfO_below ho' (Nat.le_trans h.lo.size hb.size) 0 _))⟩
theorem OfA.pushFr {a : Option Addr} {c : Nat} (h : OfA W1 sb to_ fr vt (.slice a fr.length c) X W) (hl : fr.length ≤ 100000) (p : Int × Int) :
 ∃ A' c' w', (Builtin.append_ #[23, 23] 23 #[.slice a fr.length c, .slice (some ⟨W.heap.size, 0, none⟩) 1 1]).run Tryz.prog (W.alloc (.cells #[.int .i64 p.1, .int .i64 p.2] 48)) = .ok (.slice A' (fr.length + 1) c') w' ∧
   w'.cell? ⟨sb, 1, none⟩ = some (.slice a fr.length c) ∧ (∀ k, w'.frozen? ⟨sb, k, none⟩ = false) ∧ OfA W1 sb to_ (fr ++ [p]) vt (.slice A' (fr.length + 1) c') X (w'.setCell ⟨sb, 1, none⟩ (.slice A' (fr.length + 1) c')) := by
 have hp : Owns W W1.heap.size (pxP (.slice a fr.length c) fr :: sfO sb vt (.slice a fr.length c) :: pxJ vt to_ :: X) := h.own.perm ((List.Perm.cons _ (List.Perm.swap _ _ _)).trans (List.Perm.swap _ _ _))
 obtain ⟨A', c', w', hr, ho, hb⟩ := pxP_app hp h.lo.size hl p
 have ho' : Owns w' W1.heap.size (sfO sb vt (.slice a fr.length c) :: pxJ vt to_ :: pxP (.slice A' (fr.length + 1) c') (fr ++ [p]) :: X) := ho.perm ((List.Perm.swap _ _ _).trans (List.Perm.cons _ (List.Perm.swap _ _ _)))
 obtain ⟨-, q0, q1⟩ := sfO_at ho'.head
 exact ⟨A', c', w', hr, q0, q1, sfO_set ho' 1 _, h.lo.trans (hb.trans (sfO_below ho' (Nat.le_trans h.lo.size hb.size) 1 _))⟩
theorem OfA.boxed (h : OfA W1 sb to_ fr vt vf X W) (s : Stc) : OfA W1 sb to_ fr vt vf (stO W.heap.size s :: X) (W.alloc (.cells #[.int .u8 s.kind, .bool s.purl, .int .i64 s.a, .int .i64 s.b] 96)) := by
 have hal := al_t W (.cells #[.int .u8 s.kind, .bool s.purl, .int .i64 s.a, .int .i64 s.b] 96)
 have hn := box_new W 96 s.cells rfl
 refine ⟨(h.own.add (o := stO W.heap.size s) hal h.lo.size hn).perm ?_, h.lo.trans (hal.mono h.lo.size)⟩
 exact (List.Perm.swap _ _ _).trans (List.Perm.cons _ ((List.Perm.swap _ _ _).trans (List.Perm.cons _ (List.Perm.swap _ _ _))))
theorem OfA.sub (h : OfA W1 sb to_ fr vt vf X W) {X' : List Own} (hs : X'.Sublist X) : OfA W1 sb to_ fr vt vf X' W := ⟨h.own.sub (List.Sublist.cons_cons _ (List.Sublist.cons_cons _ (List.Sublist.cons_cons _ hs))), h.lo⟩
end
end Go.Proofs.YtflpikickbellaaGreat
namespace Go.Proofs.YtflpikickbellaaGreat
open Go.RowKit Go.Shelf Go.Lib Go.Sort
set_option maxRecDepth 100000
theorem two_grow (W : World) (A B : Obj) (n : Nat) : ∃ q os', ((W.alloc A).alloc B).drewN n = grow (W.drewN q) os' := ⟨n, #[A] ++ #[B], by rw [alloc_eq_grow, alloc_eq_grow, grow_grow]; rfl⟩
set_option maxHeartbeats 2000000 in
theorem of1_any (x y : Int × Int) (W : World) :
 Calls Tryz.prog 41 #[.agg (prC x).toArray, .agg (prC y).toArray] W fun e w' => e = .returned (.int .i64 (cmpP x y)) ∧ ∃ q os', w' = grow (W.drewN q) os' := by
 obtain ⟨a, b⟩ := x
 obtain ⟨c, d⟩ := y
 have g0 : ((W.alloc (.cells #[.int .i64 a, .int .i64 b] 48)).alloc (.cells #[.int .i64 c, .int .i64 d] 48)).cell? ⟨W.heap.size, 0, none⟩ = some (.int .i64 a) := cell_al (cell_new rfl rfl rfl) _
 have g1 : ((W.alloc (.cells #[.int .i64 a, .int .i64 b] 48)).alloc (.cells #[.int .i64 c, .int .i64 d] 48)).cell? ⟨W.heap.size, 1, none⟩ = some (.int .i64 b) := cell_al (cell_new rfl rfl rfl) _
 have g2 : ((W.alloc (.cells #[.int .i64 a, .int .i64 b] 48)).alloc (.cells #[.int .i64 c, .int .i64 d] 48)).cell? ⟨W.heap.size + 1, 0, none⟩ = some (.int .i64 c) := cell_new rfl (by simp) rfl
 have g3 : ((W.alloc (.cells #[.int .i64 a, .int .i64 b] 48)).alloc (.cells #[.int .i64 c, .int .i64 d] 48)).cell? ⟨W.heap.size + 1, 1, none⟩ = some (.int .i64 d) := cell_new rfl (by simp) rfl
 have HC : Hid (∀ n, Calls Tryz.prog 42 #[.slice (some ⟨W.heap.size, 0, none⟩) 2 2, .slice (some ⟨W.heap.size + 1, 0, none⟩) 2 2] (((W.alloc (.cells #[.int .i64 a, .int .i64 b] 48)).alloc (.cells #[.int .i64 c, .int .i64 d] 48)).drewN n) fun e w' =>
  e = .returned (.int .i64 (cmpP (a, b) (c, d))) ∧ ∃ m, w' = (((W.alloc (.cells #[.int .i64 a, .int .i64 b] 48)).alloc (.cells #[.int .i64 c, .int .i64 d] 48)).drewN n).drewN m) := fun n =>
  (scmp_any W.heap.size 0 2 (W.heap.size + 1) 0 2 (a, b) (c, d) (((W.alloc (.cells #[.int .i64 a, .int .i64 b] 48)).alloc (.cells #[.int .i64 c, .int .i64 d] 48)).drewN n) g0 g1 g2 g3).mono fun e w' h => ⟨h.1, 0, h.2⟩
 obtain ⟨z, hz⟩ : ∃ z, z = cmpP (a, b) (c, d) := ⟨_, rfl⟩
 rw [← hz] at HC ⊢
 clear hz
 go_enter Tryz.func41, Tryz.ntmps41
 go_wp2
 go_quiet ((go_at_call 42; exact Calls.quiet_of (HC.out _)))
 go_wp2
 go_ret
 exact ⟨rfl, two_grow W _ _ _⟩
theorem swo_cmp : SWO (ltOf cmpP) := by
 have e : ∀ p q : Int × Int, (ltOf cmpP p q = true ↔ p.1 < q.1 ∨ (p.1 = q.1 ∧ p.2 < q.2)) := fun p q => by
  unfold ltOf
  have h := cmpP_ge p q
  have h2 : decide (cmpP p q < 0) = !(decide (0 ≤ cmpP p q)) := by
   by_cases hc : cmpP p q < 0
   · rw [decide_eq_true hc, decide_eq_false (by omega)]; rfl
   · rw [decide_eq_false hc, decide_eq_true (by omega)]; rfl
  rw [h2, h, Bool.not_not]
  unfold ltP
  simp
 have e2 : ∀ p q : Int × Int, (ltOf cmpP p q = false ↔ ¬ (p.1 < q.1 ∨ (p.1 = q.1 ∧ p.2 < q.2))) := fun p q => by rw [← e, Bool.not_eq_true]
 refine ⟨fun x => (e2 x x).2 (by omega), fun x y z h1 h2 => (e x z).2 ?_, fun x y z h1 h2 => (e2 x z).2 ?_⟩
 · have := (e x y).1 h1; have := (e y z).1 h2; omega
 · have := (e2 x y).1 h1; have := (e2 y z).1 h2; omega
theorem tot_cmp (x y : Int × Int) (h1 : ltOf cmpP x y = false) (h2 : ltOf cmpP y x = false) : x = y := by
 have e : ∀ p q : Int × Int, ltOf cmpP p q = false → ¬ (p.1 < q.1 ∨ (p.1 = q.1 ∧ p.2 < q.2)) := fun p q h hc => by
  unfold ltOf at h
  rw [decide_eq_false_iff_not] at h
  have h3 := cmpP_ge p q
  rw [decide_eq_true (by omega)] at h3
  have : ltP p q = true := by unfold ltP; simp; omega
  rw [this] at h3
  cases h3
 have a1 := e x y h1
 have a2 := e y x h2
 obtain ⟨x1, x2⟩ := x
 obtain ⟨y1, y2⟩ := y
 simp only at a1 a2
 rw [Prod.mk.injEq]
 omega
theorem one2 (p : Int × Int) : ∀ v ∈ prC p, v.oneCell' = true := by
 intro u hu
 simp only [List.mem_cons, List.not_mem_nil, or_false] at hu
 rcases hu with rfl | rfl <;> rfl
theorem holds_pr {w : World} {B g n cap : Nat} {l : List (Int × Int)} (hn : n = l.length) (h : w.ownsRow B 48 2 (.slice (some ⟨g, 0, none⟩) n cap) n (l.map prC).flatten) : HoldsK prC 2 w g 0 l.toArray := by
 intro j hj
 rw [size_flatK, List.size_toArray] at hj
 have hcell := h.cellAt (g := g) j (by omega)
 rw [Nat.zero_add]
 refine ⟨?_, ?_⟩
 · rw [hcell]
   have hq : j / 2 < l.length := by omega
   have h1 : (l.map prC)[j / 2]? = some (prC l[j / 2]) := by rw [List.getElem?_map, List.getElem?_eq_getElem hq]; rfl
   have hm : j % 2 < 2 := Nat.mod_lt _ (by omega)
   have h2 : (prC l[j / 2])[j % 2]? = some ((prC l[j / 2])[j % 2]'(by show j % 2 < 2; exact hm)) := List.getElem?_eq_getElem _
   have h3 := flat_at (cells_two l) h1 h2
   rw [show j / 2 * 2 + j % 2 = j by omega] at h3
   rw [h3, get_flatK _ _ _ _ (by rw [List.size_toArray]; exact hj)]
   have e : l.toArray[j / 2]! = l[j / 2] := by rw [getElem!_pos _ _ (by rw [List.size_toArray]; exact hq)]; rfl
   have e2 : (prC l[j / 2])[j % 2]! = (prC l[j / 2])[j % 2]'(by show j % 2 < 2; exact hm) := getElem!_pos (prC l[j / 2]) (j % 2) (by show j % 2 < 2; exact hm)
   rw [e, e2]
   rfl
 · rcases h.2 with ⟨hv, _⟩ | ⟨g', cap', cur, hv, _, hh, _⟩
   · cases hv
   · cases hv
     simp only [World.frozen?, hh]
     simp
theorem grown_sortK {w : World} {g n : Nat} {os : Array Obj} (d : Array (Int × Int)) : w.grownBy (sortWorldK prC 2 w g 0 n d os) (some g) := by
 unfold sortWorldK putRowK
 refine ⟨rfl, rfl, rfl, by simp [grow, putRow, mapBlock, Sort.ahead], fun k hk hne => ?_⟩
 rw [heap_grow_old _ _ (by simpa [putRow, mapBlock, Sort.ahead] using hk)]
 have : g ≠ k := fun e => hne (by rw [e])
 simp [putRow, mapBlock, Sort.ahead, Array.getElem?_modify, this]
set_option maxHeartbeats 1000000 in
theorem sortPr_any (B : Nat) (A : Option Addr) (c : Nat) (l : List (Int × Int)) (hl : l.length ≤ 100000) (w : World) (h : (pxP (.slice A l.length c) l).lies w B) :
 Calls Tryz.prog 40 #[.slice A l.length c, .func (.func 41) #[] #[]] w fun e w' => e = .returned (.tuple #[]) ∧ SlPr w' w'.heap.size A (sortP l) ∧ w.grownBy w' (Value.slice A l.length c).ownBlock := by
 have h0 : w.ownsRow B 48 2 (.slice A l.length c) l.length (l.map prC).flatten := h
 have hsl : (sortP l).length = l.length := by unfold sortP; exact List.length_mergeSort l
 by_cases hz : l = []
 · subst hz
   have := AnyF.slices_SortFunc_none Tryz.sortPr A c (.func (.func 41) #[] #[]) w
   refine Calls.mono this ?_
   rintro e w' ⟨rfl, rfl⟩
   have e : sortP [] = [] := by unfold sortP; simp
   rw [e]
   exact ⟨rfl, SlPr.nil, ⟨rfl, rfl, rfl, Nat.le_refl _, fun _ _ _ => rfl⟩⟩
 · have hp : 0 < l.length := List.length_pos_iff.2 hz
   obtain ⟨g, rfl, hg⟩ : ∃ g, A = some ⟨g, 0, none⟩ ∧ g < w.heap.size := by
    rcases h0.2 with ⟨-, e⟩ | ⟨g, cap, cur, hv, -, hh, -⟩
    · omega
    · cases hv; exact ⟨g, rfl, (Array.getElem?_eq_some_iff.1 hh).1⟩
   have hH := holds_pr rfl h0
   have hc := AnyQ.slices_SortFunc_total Tryz.sortPr 2 (fun w => by kernel_rfl) (fun w => by kernel_rfl) prC (fun _ => rfl) one2 cmpP swo_cmp 41 #[] g 0 c l.toArray w
    (enters_of Tryz.func41 (by kernel_rfl) rfl) (fun _ _ _ _ x y => of1_any x y _) hH hg (by rw [List.size_toArray]; omega) tot_cmp
   rw [List.size_toArray] at hc
   refine Calls.mono hc ?_
   rintro e w' ⟨rfl, n, os, rfl⟩
   have he : (l.toArray.toList.mergeSort fun x y => !(ltOf cmpP) y x) = sortP l := rfl
   rw [he]
   refine ⟨rfl, fun hne => ?_, grown_sortK _⟩
   have hK : HoldsK prC 2 (putRowK prC 2 (Sort.ahead w n) g 0 (sortP l).toArray) g 0 (sortP l).toArray := holdsK_putRowK _ _ _ _ _ l.toArray _ (Go.Sort.holdsK_ahead _ _ _ _ _ _ _ hH) (by simp [hsl])
   have hgs : g < (putRowK prC 2 (Sort.ahead w n) g 0 (sortP l).toArray).heap.size := by simpa [putRowK, putRow, mapBlock, Sort.ahead] using hg
   have hcell : ∀ o, (sortWorldK prC 2 w g 0 n (sortP l).toArray os).cell? ⟨g, o, none⟩ = (putRowK prC 2 (Sort.ahead w n) g 0 (sortP l).toArray).cell? ⟨g, o, none⟩ := fun o => World.cell?_of_block (a := ⟨g, o, none⟩) (heap_grow_old _ _ hgs)
   refine ⟨g, 0, rfl, Nat.lt_of_lt_of_le hg (grown_sortK (os := os) (n := n) (sortP l).toArray).size, fun j cs hz2 i v hv => ?_⟩
   rw [List.getElem?_map] at hz2
   cases hr : (sortP l)[j]? with
   | none => rw [hr] at hz2; cases hz2
   | some x =>
     rw [hr] at hz2
     simp only [Option.map_some, Option.some.injEq] at hz2
     subst hz2
     have hj := (List.getElem?_eq_some_iff.1 hr).1
     have hi : i < 2 := (List.getElem?_eq_some_iff.1 hv).1
     have := (hK (j * 2 + i) (by rw [size_flatK]; simp; omega)).1
     rw [get_flatK _ _ _ _ (by simp; omega), show (j * 2 + i) / 2 = j by omega, show (j * 2 + i) % 2 = i by omega] at this
     rw [Nat.zero_add] at this ⊢
     rw [hcell, this]
     have e : (sortP l).toArray[j]! = x := by
      rw [getElem!_pos _ _ (by simpa using hj)]
      simpa using (List.getElem?_eq_some_iff.1 hr).2
     rw [e]
     have e2 : (prC x)[i]! = (prC x)[i]'(by show i < 2; exact hi) := getElem!_pos (prC x) i (by show i < 2; exact hi)
     rw [e2]
     exact congrArg some (List.getElem?_eq_some_iff.1 hv).2
end Go.Proofs.YtflpikickbellaaGreat
