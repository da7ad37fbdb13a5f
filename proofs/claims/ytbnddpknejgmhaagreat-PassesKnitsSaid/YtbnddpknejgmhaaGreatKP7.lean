/- Layer 30: a state that is changed, in rows that the call owns. -/
import Derived.Test.YtbnddpknejgmhaaGreatKP2
import Derived.Test.YtbnddpknejgmhaaGreatKP6
import Derived.Test.YtbnddpknejgmhaaGreatKP4
namespace Go.Proofs.YtbnddpknejgmhaaGreat
open Go.RowKit Go.Shelf
set_option maxRecDepth 100000

def hookCells (p : Hk × Value) : List Value := [.int .u8 p.1.bed, .int .i64 p.1.at_, p.2]
def makeCells (p : Mk × Value) : List Value := [p.2, .int .u8 p.1.bed, .int .i64 p.1.at_, .int .i64 p.1.car]
def rowI (v : Value) (l : List Int) : Own := ⟨3, 1, l.length, v, intV l⟩
def rowL (p : Hk × Value) : Own := rowI p.2 p.1.loops
def rowQ (p : Mk × Value) : Own := rowI p.2 p.1.parents
def rowP (T : TypeId) (pb : Nat) (r : Int) (vh vf vm : Value) : Own := ⟨T, 4, 1, .slice (some ⟨pb, 0, none⟩) 1 1, [.int .i64 r, vh, vf, vm]⟩
def rowH (v : Value) (l : List (Hk × Value)) : Own := ⟨87, 3, l.length, v, (l.map hookCells).flatten⟩
def rowF (v : Value) (l : List Fd) : Own := ⟨90, 3, l.length, v, (l.map Fd.cells).flatten⟩
def rowM (v : Value) (l : List (Mk × Value)) : Own := ⟨57, 4, l.length, v, (l.map makeCells).flatten⟩
/-- The rows of a state: the struct, three lists, the needles' loops, the loops' parents; others. -/
structure WorkAt (T : TypeId) (w : World) (B pb : Nat) (s : BedS) (hv : List (Hk × Value)) (mv : List (Mk × Value)) (vh vf vm : Value) (X : List Own) : Prop where
  hooks : hv.map Prod.fst = s.hooks
  made : mv.map Prod.fst = s.made
  owns : Owns w B (rowP T pb s.rack vh vf vm :: rowH vh hv :: rowF vf s.feeds :: rowM vm mv :: (hv.map rowL ++ (mv.map rowQ ++ X)))
def WorkX (T : TypeId) (w : World) (B pb : Nat) (s : BedS) (X : List Own) : Prop := ∃ hv mv vh vf vm, WorkAt T w B pb s hv mv vh vf vm X
section
variable {T : TypeId} {w : World} {B pb : Nat} {s : BedS} {hv : List (Hk × Value)} {mv : List (Mk × Value)} {vh vf vm : Value} {X : List Own}
theorem WorkAt.to (h : WorkAt T w B pb s hv mv vh vf vm X) {w' : World} (hb : Below w.heap.size w w') : WorkAt T w' B pb s hv mv vh vf vm X := ⟨h.hooks, h.made, h.owns.to hb⟩
theorem WorkX.to (h : WorkX T w B pb s X) {w' : World} (hb : Below w.heap.size w w') : WorkX T w' B pb s X := by
  obtain ⟨hv, mv, vh, vf, vm, h⟩ := h
  exact ⟨hv, mv, vh, vf, vm, h.to hb⟩
theorem WorkAt.rp (h : WorkAt T w B pb s hv mv vh vf vm X) : (rowP T pb s.rack vh vf vm).lies w B := h.owns.all _ (by simp)
theorem WorkAt.rh (h : WorkAt T w B pb s hv mv vh vf vm X) : (rowH vh hv).lies w B := h.owns.all _ (by simp)
theorem WorkAt.rf (h : WorkAt T w B pb s hv mv vh vf vm X) : (rowF vf s.feeds).lies w B := h.owns.all _ (by simp)
theorem WorkAt.rm (h : WorkAt T w B pb s hv mv vh vf vm X) : (rowM vm mv).lies w B := h.owns.all _ (by simp)
theorem WorkAt.rl (h : WorkAt T w B pb s hv mv vh vf vm X) {p : Hk × Value} (hp : p ∈ hv) : (rowL p).lies w B := h.owns.all _ (by simp; exact Or.inr (Or.inr (Or.inr (Or.inr (Or.inl ⟨_, _, hp, rfl⟩)))))
theorem WorkAt.rq (h : WorkAt T w B pb s hv mv vh vf vm X) {p : Mk × Value} (hp : p ∈ mv) : (rowQ p).lies w B := h.owns.all _ (by simp; exact Or.inr (Or.inr (Or.inr (Or.inr (Or.inr (Or.inl ⟨_, _, hp, rfl⟩))))))
theorem WorkAt.rx (h : WorkAt T w B pb s hv mv vh vf vm X) {o : Own} (hp : o ∈ X) : o.lies w B := h.owns.all _ (by simp; exact Or.inr (Or.inr (Or.inr (Or.inr (Or.inr (Or.inr hp))))))
theorem WorkAt.cells (h : WorkAt T w B pb s hv mv vh vf vm X) : w.cell? ⟨pb, 0, none⟩ = some (.int .i64 s.rack) ∧ w.cell? ⟨pb, 1, none⟩ = some vh ∧ w.cell? ⟨pb, 2, none⟩ = some vf ∧ w.cell? ⟨pb, 3, none⟩ = some vm ∧ ∀ k, w.frozen? ⟨pb, k, none⟩ = false := by
  have this : w.ownsRow B T 4 (.slice (some ⟨pb, 0, none⟩) 1 1) 1 [.int .i64 s.rack, vh, vf, vm] := h.rp
  exact ⟨this.cellAt 0 (by decide), this.cellAt 1 (by decide), this.cellAt 2 (by decide), this.cellAt 3 (by decide), fun k => this.frozenAt k⟩
theorem WorkAt.base (h : WorkAt T w B pb s hv mv vh vf vm X) : B ≤ pb ∧ pb < w.heap.size := World.ownsRow.lt h.rp pb rfl
theorem WorkAt.hlen (h : WorkAt T w B pb s hv mv vh vf vm X) : hv.length = s.hooks.length := by rw [← h.hooks, List.length_map]
theorem WorkAt.mlen (h : WorkAt T w B pb s hv mv vh vf vm X) : mv.length = s.made.length := by rw [← h.made, List.length_map]
/-- A row of numbers reads as a slice. -/
theorem rowI_form {v : Value} {l : List Int} (h : (rowI v l).lies w B) : ∃ A c, v = .slice A l.length c ∧ l.length ≤ c ∧ SlI w w.heap.size A l := by
  obtain ⟨A, c, e, hc⟩ := own_slice h
  have e' : v = .slice A l.length c := e
  subst e'
  exact ⟨A, c, rfl, hc, ownI.slI (show ownI w B _ l from h)⟩
theorem cells3h : ∀ cs ∈ hv.map hookCells, cs.length = 3 := by
  intro cs h
  obtain ⟨x, _, rfl⟩ := List.mem_map.1 h
  rfl
theorem cells4m : ∀ cs ∈ mv.map makeCells, cs.length = 4 := by
  intro cs h
  obtain ⟨x, _, rfl⟩ := List.mem_map.1 h
  rfl
theorem cells3f (l : List Fd) : ∀ cs ∈ l.map Fd.cells, cs.length = 3 := by
  intro cs h
  obtain ⟨x, _, rfl⟩ := List.mem_map.1 h
  rfl
/-- The needles read as a list. -/
theorem WorkAt.slh (h : WorkAt T w B pb s hv mv vh vf vm X) : ∃ A c, vh = .slice A s.hooks.length c ∧ s.hooks.length ≤ c ∧ SlHk w w.heap.size A s.hooks := by
  obtain ⟨A, c, e, hc⟩ := own_slice h.rh
  have e' : vh = .slice A hv.length c := e
  have hc' : hv.length ≤ c := hc
  have hs := SlS.of_own (zs := hv.map hookCells) (e := 87) cells3h (by rw [List.length_map]) (show w.ownsRow B _ 3 (.slice A hv.length c) hv.length _ by rw [← e']; exact h.rh)
  refine ⟨A, c, by rw [e', h.hlen], by rw [← h.hlen]; exact hc', fun hn => ?_⟩
  obtain ⟨b, off, ea, hb, hat⟩ := hs (by intro e; rw [← h.hooks] at hn; exact hn (by simpa using e))
  refine ⟨b, off, ea, hb, fun j r hr => ?_⟩
  rw [← h.hooks, List.getElem?_map] at hr
  cases hp : hv[j]? with
  | none => rw [hp] at hr; cases hr
  | some p =>
    rw [hp] at hr
    simp only [Option.map_some, Option.some.injEq] at hr
    subst hr
    have hl := h.rl (List.mem_of_getElem? hp)
    obtain ⟨A', C', e2, hc2, hs2⟩ := rowI_form (v := p.2) (l := p.1.loops) hl
    have hat' := hat j (hookCells p) (by rw [List.getElem?_map, hp]; rfl)
    exact ⟨A', C', hat' 0 _ rfl, hat' 1 _ rfl, by rw [← e2]; exact hat' 2 _ rfl, hc2, hs2⟩
theorem WorkAt.slf (h : WorkAt T w B pb s hv mv vh vf vm X) : ∃ A c, vf = .slice A s.feeds.length c ∧ s.feeds.length ≤ c ∧ SlF w w.heap.size A s.feeds := by
  obtain ⟨A, c, e, hc⟩ := own_slice h.rf
  have e' : vf = .slice A s.feeds.length c := e
  exact ⟨A, c, e', hc, SlS.of_own (zs := s.feeds.map Fd.cells) (e := 90) (cells3f _) (by rw [List.length_map]) (show w.ownsRow B _ 3 (.slice A s.feeds.length c) s.feeds.length _ by rw [← e']; exact h.rf)⟩
theorem WorkAt.slm (h : WorkAt T w B pb s hv mv vh vf vm X) : ∃ A c, vm = .slice A s.made.length c ∧ s.made.length ≤ c ∧ SlM w w.heap.size A s.made := by
  obtain ⟨A, c, e, hc⟩ := own_slice h.rm
  have e' : vm = .slice A mv.length c := e
  have hc' : mv.length ≤ c := hc
  have hs := SlS.of_own (zs := mv.map makeCells) (e := 57) cells4m (by rw [List.length_map]) (show w.ownsRow B _ 4 (.slice A mv.length c) mv.length _ by rw [← e']; exact h.rm)
  refine ⟨A, c, by rw [e', h.mlen], by rw [← h.mlen]; exact hc', fun hn => ?_⟩
  obtain ⟨b, off, ea, hb, hat⟩ := hs (by intro e; rw [← h.made] at hn; exact hn (by simpa using e))
  refine ⟨b, off, ea, hb, fun j r hr => ?_⟩
  rw [← h.made, List.getElem?_map] at hr
  cases hp : mv[j]? with
  | none => rw [hp] at hr; cases hr
  | some p =>
    rw [hp] at hr
    simp only [Option.map_some, Option.some.injEq] at hr
    subst hr
    have hl := h.rq (List.mem_of_getElem? hp)
    obtain ⟨A', C', e2, hc2, hs2⟩ := rowI_form (v := p.2) (l := p.1.parents) hl
    have hat' := hat j (makeCells p) (by rw [List.getElem?_map, hp]; rfl)
    exact ⟨A', C', by rw [← e2]; exact hat' 0 _ rfl, hat' 1 _ rfl, hat' 2 _ rfl, hat' 3 _ rfl, hc2, hs2⟩
/-- The state as a value. -/
theorem WorkAt.bed (h : WorkAt T w B pb s hv mv vh vf vm X) : ∃ p : BedP, vh = .slice p.ah s.hooks.length p.ch ∧ vf = .slice p.af s.feeds.length p.cf ∧ vm = .slice p.am s.made.length p.cm ∧ BedAt w w.heap.size p s := by
  obtain ⟨ah, ch, e1, _, h1⟩ := h.slh
  obtain ⟨af, cf, e2, _, h2⟩ := h.slf
  obtain ⟨am, cm, e3, _, h3⟩ := h.slm
  exact ⟨⟨ah, ch, af, cf, am, cm⟩, e1, e2, e3, ⟨h1, h2, h3⟩⟩
end
/-- A cell of the struct is turned. -/
theorem rowP_set {T : TypeId} {w : World} {B pb : Nat} {xs : List Value} {L : List Own} (h : Owns w B (⟨T, 4, 1, .slice (some ⟨pb, 0, none⟩) 1 1, xs⟩ :: L)) (k : Nat) (v : Value) : Owns (w.setCell ⟨pb, k, none⟩ v) B (⟨T, 4, 1, .slice (some ⟨pb, 0, none⟩) 1 1, xs.set k v⟩ :: L) := by
  have h0 : w.ownsRow B T 4 (.slice (some ⟨pb, 0, none⟩) 1 1) 1 xs := h.head
  obtain ⟨h1, h2⟩ := World.ownsRow.stored h0 k v
  exact h.turn h2 h1 (fun k hk => Or.inl hk)
/-! ### a row beside the state -/
theorem perm_beside {P H F M o : Own} {L Q X : List Own} : (o :: P :: H :: F :: M :: (L ++ (Q ++ X))).Perm (P :: H :: F :: M :: (L ++ (Q ++ (o :: X)))) := by
  have h := (List.perm_middle (l₁ := P :: H :: F :: M :: (L ++ Q)) (l₂ := X) (a := o)).symm
  simpa only [List.cons_append, List.append_assoc] using h
theorem perm_loops {P H F M : Own} {L L' Q X X' : List Own} (h : (L ++ X).Perm (L' ++ X')) : (P :: H :: F :: M :: (L ++ (Q ++ X))).Perm (P :: H :: F :: M :: (L' ++ (Q ++ X'))) := by
  refine List.Perm.cons _ (List.Perm.cons _ (List.Perm.cons _ (List.Perm.cons _ ?_)))
  have h1 : (L ++ (Q ++ X)).Perm (Q ++ (L ++ X)) := by
    rw [← List.append_assoc, ← List.append_assoc]
    exact List.Perm.append_right _ List.perm_append_comm
  have h2 : (Q ++ (L' ++ X')).Perm (L' ++ (Q ++ X')) := by
    rw [← List.append_assoc, ← List.append_assoc]
    exact List.Perm.append_right _ List.perm_append_comm
  exact (h1.trans (List.Perm.append_left _ h)).trans h2
section
variable {T : TypeId} {w : World} {B pb : Nat} {s : BedS} {hv : List (Hk × Value)} {mv : List (Mk × Value)} {vh vf vm : Value} {X : List Own}
theorem WorkAt.add (h : WorkAt T w B pb s hv mv vh vf vm X) {w' : World} {o : Own} (hb : Below w.heap.size w w') (ho : o.lies w' w.heap.size) : WorkAt T w' B pb s hv mv vh vf vm (o :: X) :=
  ⟨h.hooks, h.made, (h.owns.add hb (by have := h.base; omega) ho).perm perm_beside⟩
theorem WorkX.add {w' : World} {o : Own} (h : WorkX T w B pb s X) (hb : Below w.heap.size w w') (ho : o.lies w' w.heap.size) : WorkX T w' B pb s (o :: X) := by
  obtain ⟨hv, mv, vh, vf, vm, h⟩ := h
  exact ⟨hv, mv, vh, vf, vm, h.add hb ho⟩
theorem WorkAt.addNil (h : WorkAt T w B pb s hv mv vh vf vm X) : WorkAt T w B pb s hv mv vh vf vm (rowI (.slice none 0 0) [] :: X) :=
  ⟨h.hooks, h.made, (h.owns.none 3 1).perm perm_beside⟩
theorem WorkX.addNil (h : WorkX T w B pb s X) : WorkX T w B pb s (rowI (.slice none 0 0) [] :: X) := by
  obtain ⟨hv, mv, vh, vf, vm, h⟩ := h
  exact ⟨hv, mv, vh, vf, vm, h.addNil⟩
theorem WorkAt.less {o : Own} (h : WorkAt T w B pb s hv mv vh vf vm (o :: X)) : WorkAt T w B pb s hv mv vh vf vm X :=
  ⟨h.hooks, h.made, (h.owns.perm perm_beside.symm).tail⟩
theorem WorkX.less {o : Own} (h : WorkX T w B pb s (o :: X)) : WorkX T w B pb s X := by
  obtain ⟨hv, mv, vh, vf, vm, h⟩ := h
  exact ⟨hv, mv, vh, vf, vm, h.less⟩
theorem WorkAt.row {o : Own} (h : WorkAt T w B pb s hv mv vh vf vm (o :: X)) : o.lies w B := h.rx List.mem_cons_self
theorem WorkX.owns (h : WorkX T w B pb s X) : Owns w B X := by
  obtain ⟨hv, mv, vh, vf, vm, h⟩ := h
  refine h.owns.sub ?_
  refine List.Sublist.cons _ (List.Sublist.cons _ (List.Sublist.cons _ (List.Sublist.cons _ ?_)))
  exact (List.sublist_append_right _ _).trans (List.sublist_append_right _ _)
theorem WorkX.row {o : Own} (h : WorkX T w B pb s X) (ho : o ∈ X) : o.lies w B := by
  obtain ⟨hv, mv, vh, vf, vm, h⟩ := h
  exact h.rx ho
/-- A row beside the state is turned. -/
theorem WorkAt.turn {o o' : Own} (h : WorkAt T w B pb s hv mv vh vf vm (o :: X)) {w' : World} (hg : w.grownBy w' o.v.ownBlock) (ho : o'.lies w' B) (hn : ∀ k, o'.v.ownBlock = some k → o.v.ownBlock = some k ∨ w.heap.size ≤ k) : WorkAt T w' B pb s hv mv vh vf vm (o' :: X) :=
  ⟨h.hooks, h.made, ((h.owns.perm perm_beside.symm).turn hg ho hn).perm perm_beside⟩
theorem WorkX.turn {o o' : Own} (h : WorkX T w B pb s (o :: X)) {w' : World} (hg : w.grownBy w' o.v.ownBlock) (ho : o'.lies w' B) (hn : ∀ k, o'.v.ownBlock = some k → o.v.ownBlock = some k ∨ w.heap.size ≤ k) : WorkX T w' B pb s (o' :: X) := by
  obtain ⟨hv, mv, vh, vf, vm, h⟩ := h
  exact ⟨hv, mv, vh, vf, vm, h.turn hg ho hn⟩
/-- The needles are turned: their row, then the struct's cell. -/
theorem WorkAt.setHooks (h : WorkAt T w B pb s hv mv vh vf vm X) {w' : World} {vh' : Value} {hv' : List (Hk × Value)} {X' : List Own} {l : List Hk} (hg : w.grownBy w' vh.ownBlock) (ho : (rowH vh' hv').lies w' B) (hn : ∀ k, vh'.ownBlock = some k → vh.ownBlock = some k ∨ w.heap.size ≤ k)
    (hl : hv'.map Prod.fst = l) (hp : (hv.map rowL ++ X).Perm (hv'.map rowL ++ X')) : WorkAt T (w'.setCell ⟨pb, 1, none⟩ vh') B pb { s with hooks := l } hv' mv vh' vf vm X' := by
  have h1 := (h.owns.swap).turn (o' := rowH vh' hv') hg ho hn
  have h2 := rowP_set (h1.swap) 1 vh'
  exact ⟨hl, h.made, h2.perm (perm_loops hp)⟩
/-- The carriers are turned. -/
theorem WorkAt.setFeeds (h : WorkAt T w B pb s hv mv vh vf vm X) {w' : World} {vf' : Value} {l : List Fd} (hg : w.grownBy w' vf.ownBlock) (ho : (rowF vf' l).lies w' B) (hn : ∀ k, vf'.ownBlock = some k → vf.ownBlock = some k ∨ w.heap.size ≤ k) :
    WorkAt T (w'.setCell ⟨pb, 2, none⟩ vf') B pb { s with feeds := l } hv mv vh vf' vm X := by
  have p1 : ∀ {P H F : Own} {R : List Own}, (P :: H :: F :: R).Perm (F :: P :: H :: R) := fun {P H F R} => (List.Perm.cons P (List.Perm.swap F H R)).trans (List.Perm.swap F P (H :: R))
  have h1 := (h.owns.perm p1).turn (o' := rowF vf' l) hg ho hn
  have h2 := rowP_set (h1.perm p1.symm) 2 vf'
  exact ⟨h.hooks, h.made, h2⟩
/-- The carriers are turned in place. -/
theorem WorkAt.turnFeeds (h : WorkAt T w B pb s hv mv vh vf vm X) {w' : World} {l : List Fd} (hg : w.grownBy w' vf.ownBlock) (ho : (rowF vf l).lies w' B) : WorkAt T w' B pb { s with feeds := l } hv mv vh vf vm X := by
  have p1 : ∀ {P H F : Own} {R : List Own}, (P :: H :: F :: R).Perm (F :: P :: H :: R) := fun {P H F R} => (List.Perm.cons P (List.Perm.swap F H R)).trans (List.Perm.swap F P (H :: R))
  have h1 := (h.owns.perm p1).turn (o' := rowF vf l) hg ho (fun k hk => Or.inl hk)
  exact ⟨h.hooks, h.made, h1.perm p1.symm⟩
/-- The loops that were made are turned. -/
theorem WorkAt.setMade (h : WorkAt T w B pb s hv mv vh vf vm X) {w' : World} {vm' : Value} {mv' : List (Mk × Value)} {X' : List Own} {l : List Mk} (hg : w.grownBy w' vm.ownBlock) (ho : (rowM vm' mv').lies w' B) (hn : ∀ k, vm'.ownBlock = some k → vm.ownBlock = some k ∨ w.heap.size ≤ k)
    (hl : mv'.map Prod.fst = l) (hp : (mv.map rowQ ++ X).Perm (mv'.map rowQ ++ X')) : WorkAt T (w'.setCell ⟨pb, 3, none⟩ vm') B pb { s with made := l } hv mv' vh vf vm' X' := by
  have p1 : ∀ {P H F M : Own} {R : List Own}, (P :: H :: F :: M :: R).Perm (M :: P :: H :: F :: R) := fun {P H F M R} =>
    ((List.Perm.cons P ((List.Perm.cons H (List.Perm.swap M F R)).trans (List.Perm.swap M H (F :: R)))).trans (List.Perm.swap M P (H :: F :: R)))
  have h1 := (h.owns.perm p1).turn (o' := rowM vm' mv') hg ho hn
  have h2 := rowP_set (h1.perm p1.symm) 3 vm'
  refine ⟨h.hooks, hl, h2.perm ?_⟩
  exact List.Perm.cons _ (List.Perm.cons _ (List.Perm.cons _ (List.Perm.cons _ (List.Perm.append_left _ hp))))
theorem WorkAt.setRack (h : WorkAt T w B pb s hv mv vh vf vm X) (r : Int) : WorkAt T (w.setCell ⟨pb, 0, none⟩ (.int .i64 r)) B pb { s with rack := r } hv mv vh vf vm X :=
  ⟨h.hooks, h.made, rowP_set h.owns 0 (.int .i64 r)⟩
theorem WorkAt.pbH (h : WorkAt T w B pb s hv mv vh vf vm X) : vh.ownBlock ≠ some pb := (List.pairwise_cons.1 h.owns.apart).1 (rowH vh hv) (by simp) pb rfl
theorem WorkAt.pbF (h : WorkAt T w B pb s hv mv vh vf vm X) : vf.ownBlock ≠ some pb := (List.pairwise_cons.1 h.owns.apart).1 (rowF vf s.feeds) (by simp) pb rfl
theorem WorkAt.pbM (h : WorkAt T w B pb s hv mv vh vf vm X) : vm.ownBlock ≠ some pb := (List.pairwise_cons.1 h.owns.apart).1 (rowM vm mv) (by simp) pb rfl
theorem WorkAt.pbX (h : WorkAt T w B pb s hv mv vh vf vm X) {o : Own} (ho : o ∈ X) : o.v.ownBlock ≠ some pb := (List.pairwise_cons.1 h.owns.apart).1 o (by simp; exact Or.inr (Or.inr (Or.inr (Or.inr (Or.inr ho))))) pb rfl
/-- The struct, where another row has been turned. -/
theorem WorkAt.struct (h : WorkAt T w B pb s hv mv vh vf vm X) {w' : World} {row : Option Nat} (hg : w.grownBy w' row) (hne : row ≠ some pb) :
    w'.cell? ⟨pb, 0, none⟩ = some (.int .i64 s.rack) ∧ w'.cell? ⟨pb, 1, none⟩ = some vh ∧ w'.cell? ⟨pb, 2, none⟩ = some vf ∧ w'.cell? ⟨pb, 3, none⟩ = some vm ∧ ∀ k, w'.frozen? ⟨pb, k, none⟩ = false := by
  have hb : w'.heap[pb]? = w.heap[pb]? := hg.block pb h.base.2 (fun e => hne e.symm)
  obtain ⟨c0, c1, c2, c3, c4⟩ := h.cells
  exact ⟨(World.cell?_of_block (a := ⟨pb, 0, none⟩) hb).trans c0, (World.cell?_of_block (a := ⟨pb, 1, none⟩) hb).trans c1, (World.cell?_of_block (a := ⟨pb, 2, none⟩) hb).trans c2, (World.cell?_of_block (a := ⟨pb, 3, none⟩) hb).trans c3, fun k => (World.frozen?_of_block (a := ⟨pb, k, none⟩) hb).trans (c4 k)⟩
end
end Go.Proofs.YtbnddpknejgmhaaGreat
