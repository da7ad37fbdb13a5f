/- Layer 30. -/
import Derived.Test.YtflpikickbellaaGreatZ19
namespace Go.Proofs.YtflpikickbellaaGreat
open Go.RowKit Go.Shelf
set_option maxRecDepth 100000
def hookCells (p : Hk × Value) : List Value := [.int .u8 p.1.bed, .int .i64 p.1.at_, p.2]
def makeCells (p : Mk × Value) : List Value := [p.2, .int .u8 p.1.bed, .int .i64 p.1.at_, .int .i64 p.1.car]
def rowI (v : Value) (l : List Int) : Own := ⟨3, 1, l.length, v, intV l⟩
def rowL (p : Hk × Value) : Own := rowI p.2 p.1.loops
def rowQ (p : Mk × Value) : Own := rowI p.2 p.1.parents
def rowP (T : TypeId) (pb : Nat) (r : Int) (vh vf vm : Value) : Own := ⟨T, 4, 1, .slice (some ⟨pb, 0, none⟩) 1 1, [.int .i64 r, vh, vf, vm]⟩
def rowH (v : Value) (l : List (Hk × Value)) : Own := ⟨82, 3, l.length, v, (l.map hookCells).flatten⟩
def rowF (v : Value) (l : List Fd) : Own := ⟨125, 3, l.length, v, (l.map Fd.cells).flatten⟩
def rowM (v : Value) (l : List (Mk × Value)) : Own := ⟨66, 4, l.length, v, (l.map makeCells).flatten⟩
structure WorkAt (T : TypeId) (w : World) (B pb : Nat) (s : BedS) (hv : List (Hk × Value)) (mv : List (Mk × Value)) (vh vf vm : Value) (X : List Own) : Prop where
 hooks : hv.map Prod.fst = s.hooks
 made : mv.map Prod.fst = s.made
 owns : Owns w B (rowP T pb s.rack vh vf vm :: rowH vh hv :: rowF vf s.feeds :: rowM vm mv :: (hv.map rowL ++ (mv.map rowQ ++ X)))
def WorkX (T : TypeId) (w : World) (B pb : Nat) (s : BedS) (X : List Own) : Prop := ∃ hv mv vh vf vm, WorkAt T w B pb s hv mv vh vf vm X
section
variable {T : TypeId} {w : World} {B pb : Nat} {s : BedS} {hv : List (Hk × Value)} {mv : List (Mk × Value)} {vh vf vm : Value} {X : List Own}
theorem WorkAt.to (h : WorkAt T w B pb s hv mv vh vf vm X) {w' : World} (hb : Below w.heap.size w w') : WorkAt T w' B pb s hv mv vh vf vm X := ⟨h.hooks, h.made, h.owns.to hb⟩
theorem WorkX.to (h : WorkX T w B pb s X) {w' : World} (hb : Below w.heap.size w w') : WorkX T w' B pb s X := by
 obtain ⟨hv, mv, vh, vf, vm, h⟩ := h
 exact ⟨hv, mv, vh, vf, vm, h.to hb⟩
theorem WorkAt.rp (h : WorkAt T w B pb s hv mv vh vf vm X) : (rowP T pb s.rack vh vf vm).lies w B := h.owns.all _ (by simp)
theorem WorkAt.rh (h : WorkAt T w B pb s hv mv vh vf vm X) : (rowH vh hv).lies w B := h.owns.all _ (by simp)
theorem WorkAt.rf (h : WorkAt T w B pb s hv mv vh vf vm X) : (rowF vf s.feeds).lies w B := h.owns.all _ (by simp)
theorem WorkAt.rm (h : WorkAt T w B pb s hv mv vh vf vm X) : (rowM vm mv).lies w B := h.owns.all _ (by simp)
theorem WorkAt.rl (h : WorkAt T w B pb s hv mv vh vf vm X) {p : Hk × Value} (hp : p ∈ hv) : (rowL p).lies w B := h.owns.all _ (by simp; exact Or.inr (Or.inr (Or.inr (Or.inr (Or.inl ⟨_, _, hp, rfl⟩)))))
theorem WorkAt.rq (h : WorkAt T w B pb s hv mv vh vf vm X) {p : Mk × Value} (hp : p ∈ mv) : (rowQ p).lies w B := h.owns.all _ (by simp; exact Or.inr (Or.inr (Or.inr (Or.inr (Or.inr (Or.inl ⟨_, _, hp, rfl⟩))))))
theorem WorkAt.rx (h : WorkAt T w B pb s hv mv vh vf vm X) {o : Own} (hp : o ∈ X) : o.lies w B := h.owns.all _ (by simp; exact Or.inr (Or.inr (Or.inr (Or.inr (Or.inr (Or.inr hp))))))
theorem WorkAt.cells (h : WorkAt T w B pb s hv mv vh vf vm X) : w.cell? ⟨pb, 0, none⟩ = some (.int .i64 s.rack) ∧ w.cell? ⟨pb, 1, none⟩ = some vh ∧ w.cell? ⟨pb, 2, none⟩ = some vf ∧ w.cell? ⟨pb, 3, none⟩ = some vm ∧ ∀ k, w.frozen? ⟨pb, k, none⟩ = false := by
 have this : w.ownsRow B T 4 (.slice (some ⟨pb, 0, none⟩) 1 1) 1 [.int .i64 s.rack, vh, vf, vm] := h.rp
 exact ⟨this.cellAt 0 (by decide), this.cellAt 1 (by decide), this.cellAt 2 (by decide), this.cellAt 3 (by decide), fun k => this.frozenAt k⟩
theorem WorkAt.base (h : WorkAt T w B pb s hv mv vh vf vm X) : B ≤ pb ∧ pb < w.heap.size := World.ownsRow.lt h.rp pb rfl
theorem WorkAt.hlen (h : WorkAt T w B pb s hv mv vh vf vm X) : hv.length = s.hooks.length := by rw [← h.hooks, List.length_map]
theorem WorkAt.mlen (h : WorkAt T w B pb s hv mv vh vf vm X) : mv.length = s.made.length := by rw [← h.made, List.length_map]
theorem rowI_form {v : Value} {l : List Int} (h : (rowI v l).lies w B) : ∃ A c, v = .slice A l.length c ∧ l.length ≤ c ∧ SlI w w.heap.size A l := by
 obtain ⟨A, c, e, hc⟩ := own_slice h
 have e' : v = .slice A l.length c := e
 subst e'
 exact ⟨A, c, rfl, hc, ownI.slI (show ownI w B _ l from h)⟩
theorem cells3h : ∀ cs ∈ hv.map hookCells, cs.length = 3 := by
 intro cs h
 obtain ⟨x, _, rfl⟩ := List.mem_map.1 h
 rfl
theorem cells4m : ∀ cs ∈ mv.map makeCells, cs.length = 4 := by
 intro cs h
 obtain ⟨x, _, rfl⟩ := List.mem_map.1 h
 rfl
theorem cells3f (l : List Fd) : ∀ cs ∈ l.map Fd.cells, cs.length = 3 := by
 intro cs h
 obtain ⟨x, _, rfl⟩ := List.mem_map.1 h
 rfl
theorem WorkAt.slh (h : WorkAt T w B pb s hv mv vh vf vm X) : ∃ A c, vh = .slice A s.hooks.length c ∧ s.hooks.length ≤ c ∧ SlHk w w.heap.size A s.hooks := by
 obtain ⟨A, c, e, hc⟩ := own_slice h.rh
 have e' : vh = .slice A hv.length c := e
 have hc' : hv.length ≤ c := hc
 have hs := SlS.of_own (zs := hv.map hookCells) (e := 82) cells3h (by rw [List.length_map]) (show w.ownsRow B _ 3 (.slice A hv.length c) hv.length _ by rw [← e']; exact h.rh)
 refine ⟨A, c, by rw [e', h.hlen], by rw [← h.hlen]; exact hc', fun hn => ?_⟩
 obtain ⟨b, off, ea, hb, hat⟩ := hs (by intro e; rw [← h.hooks] at hn; exact hn (by simpa using e))
 refine ⟨b, off, ea, hb, fun j r hr => ?_⟩
 rw [← h.hooks, List.getElem?_map] at hr
 cases hp : hv[j]? with
 | none => rw [hp] at hr; cases hr
 | some p =>
   rw [hp] at hr
   simp only [Option.map_some, Option.some.injEq] at hr
   subst hr
   have hl := h.rl (List.mem_of_getElem? hp)
   obtain ⟨A', C', e2, hc2, hs2⟩ := rowI_form (v := p.2) (l := p.1.loops) hl
   have hat' := hat j (hookCells p) (by rw [List.getElem?_map, hp]; rfl)
   exact ⟨A', C', hat' 0 _ rfl, hat' 1 _ rfl, by rw [← e2]; exact hat' 2 _ rfl, hc2, hs2⟩
theorem WorkAt.slf (h : WorkAt T w B pb s hv mv vh vf vm X) : ∃ A c, vf = .slice A s.feeds.length c ∧ s.feeds.length ≤ c ∧ SlF w w.heap.size A s.feeds := by
 obtain ⟨A, c, e, hc⟩ := own_slice h.rf
 have e' : vf = .slice A s.feeds.length c := e
 exact ⟨A, c, e', hc, SlS.of_own (zs := s.feeds.map Fd.cells) (e := 125) (cells3f _) (by rw [List.length_map]) (show w.ownsRow B _ 3 (.slice A s.feeds.length c) s.feeds.length _ by rw [← e']; exact h.rf)⟩
theorem WorkAt.slm (h : WorkAt T w B pb s hv mv vh vf vm X) : ∃ A c, vm = .slice A s.made.length c ∧ s.made.length ≤ c ∧ SlM w w.heap.size A s.made := by
 obtain ⟨A, c, e, hc⟩ := own_slice h.rm
 have e' : vm = .slice A mv.length c := e
 have hc' : mv.length ≤ c := hc
 have hs := SlS.of_own (zs := mv.map makeCells) (e := 66) cells4m (by rw [List.length_map]) (show w.ownsRow B _ 4 (.slice A mv.length c) mv.length _ by rw [← e']; exact h.rm)
 refine ⟨A, c, by rw [e', h.mlen], by rw [← h.mlen]; exact hc', fun hn => ?_⟩
 obtain ⟨b, off, ea, hb, hat⟩ := hs (by intro e; rw [← h.made] at hn; exact hn (by simpa using e))
 refine ⟨b, off, ea, hb, fun j r hr => ?_⟩
 rw [← h.made, List.getElem?_map] at hr
 cases hp : mv[j]? with
 | none => rw [hp] at hr; cases hr
 | some p =>
   rw [hp] at hr
   simp only [Option.map_some, Option.some.injEq] at hr
   subst hr
   have hl := h.rq (List.mem_of_getElem? hp)
   obtain ⟨A', C', e2, hc2, hs2⟩ := rowI_form (v := p.2) (l := p.1.parents) hl
   have hat' := hat j (makeCells p) (by rw [List.getElem?_map, hp]; rfl)
   exact ⟨A', C', by rw [← e2]; exact hat' 0 _ rfl, hat' 1 _ rfl, hat' 2 _ rfl, hat' 3 _ rfl, hc2, hs2⟩
theorem WorkAt.bed (h : WorkAt T w B pb s hv mv vh vf vm X) : ∃ p : BedP, vh = .slice p.ah s.hooks.length p.ch ∧ vf = .slice p.af s.feeds.length p.cf ∧ vm = .slice p.am s.made.length p.cm ∧ BedAt w w.heap.size p s := by
 obtain ⟨ah, ch, e1, _, h1⟩ := h.slh
 obtain ⟨af, cf, e2, _, h2⟩ := h.slf
 obtain ⟨am, cm, e3, _, h3⟩ := h.slm
 exact ⟨⟨ah, ch, af, cf, am, cm⟩, e1, e2, e3, ⟨h1, h2, h3⟩⟩
end
theorem rowP_set {T : TypeId} {w : World} {B pb : Nat} {xs : List Value} {L : List Own} (h : Owns w B (⟨T, 4, 1, .slice (some ⟨pb, 0, none⟩) 1 1, xs⟩ :: L)) (k : Nat) (v : Value) : Owns (w.setCell ⟨pb, k, none⟩ v) B (⟨T, 4, 1, .slice (some ⟨pb, 0, none⟩) 1 1, xs.set k v⟩ :: L) := by
 have h0 : w.ownsRow B T 4 (.slice (some ⟨pb, 0, none⟩) 1 1) 1 xs := h.head
 obtain ⟨h1, h2⟩ := World.ownsRow.stored h0 k v
 exact h.turn h2 h1 (fun k hk => Or.inl hk)
theorem perm_beside {P H F M o : Own} {L Q X : List Own} : (o :: P :: H :: F :: M :: (L ++ (Q ++ X))).Perm (P :: H :: F :: M :: (L ++ (Q ++ (o :: X)))) := by
 have h := (List.perm_middle (l₁ := P :: H :: F :: M :: (L ++ Q)) (l₂ := X) (a := o)).symm
 simpa only [List.cons_append, List.append_assoc] using h
theorem perm_loops {P H F M : Own} {L L' Q X X' : List Own} (h : (L ++ X).Perm (L' ++ X')) : (P :: H :: F :: M :: (L ++ (Q ++ X))).Perm (P :: H :: F :: M :: (L' ++ (Q ++ X'))) := by
 refine List.Perm.cons _ (List.Perm.cons _ (List.Perm.cons _ (List.Perm.cons _ ?_)))
 have h1 : (L ++ (Q ++ X)).Perm (Q ++ (L ++ X)) := by
  rw [← List.append_assoc, ← List.append_assoc]
  exact List.Perm.append_right _ List.perm_append_comm
 have h2 : (Q ++ (L' ++ X')).Perm (L' ++ (Q ++ X')) := by
  rw [← List.append_assoc, ← List.append_assoc]
  exact List.Perm.append_right _ List.perm_append_comm
 exact (h1.trans (List.Perm.append_left _ h)).trans h2
section
variable {T : TypeId} {w : World} {B pb : Nat} {s : BedS} {hv : List (Hk × Value)} {mv : List (Mk × Value)} {vh vf vm : Value} {X : List Own}
theorem WorkAt.add (h : WorkAt T w B pb s hv mv vh vf vm X) {w' : World} {o : Own} (hb : Below w.heap.size w w') (ho : o.lies w' w.heap.size) : WorkAt T w' B pb s hv mv vh vf vm (o :: X) :=
 ⟨h.hooks, h.made, (h.owns.add hb (by have := h.base; omega) ho).perm perm_beside⟩
theorem WorkX.add {w' : World} {o : Own} (h : WorkX T w B pb s X) (hb : Below w.heap.size w w') (ho : o.lies w' w.heap.size) : WorkX T w' B pb s (o :: X) := by
 obtain ⟨hv, mv, vh, vf, vm, h⟩ := h
 exact ⟨hv, mv, vh, vf, vm, h.add hb ho⟩
theorem WorkAt.addNil (h : WorkAt T w B pb s hv mv vh vf vm X) : WorkAt T w B pb s hv mv vh vf vm (rowI (.slice none 0 0) [] :: X) :=
 ⟨h.hooks, h.made, (h.owns.none 3 1).perm perm_beside⟩
theorem WorkX.addNil (h : WorkX T w B pb s X) : WorkX T w B pb s (rowI (.slice none 0 0) [] :: X) := by
 obtain ⟨hv, mv, vh, vf, vm, h⟩ := h
 exact ⟨hv, mv, vh, vf, vm, h.addNil⟩
theorem WorkAt.less {o : Own} (h : WorkAt T w B pb s hv mv vh vf vm (o :: X)) : WorkAt T w B pb s hv mv vh vf vm X :=
 ⟨h.hooks, h.made, (h.owns.perm perm_beside.symm).tail⟩
theorem WorkX.less {o : Own} (h : WorkX T w B pb s (o :: X)) : WorkX T w B pb s X := by
 obtain ⟨hv, mv, vh, vf, vm, h⟩ := h
 exact ⟨hv, mv, vh, vf, vm, h.less⟩
theorem WorkAt.row {o : Own} (h : WorkAt T w B pb s hv mv vh vf vm (o :: X)) : o.lies w B := h.rx List.mem_cons_self
theorem WorkX.owns (h : WorkX T w B pb s X) : Owns w B X := by
 obtain ⟨hv, mv, vh, vf, vm, h⟩ := h
 refine h.owns.sub ?_
 refine List.Sublist.cons _ (List.Sublist.cons _ (List.Sublist.cons _ (List.Sublist.cons _ ?_)))
 exact (List.sublist_append_right _ _).trans (List.sublist_append_right _ _)
theorem WorkX.row {o : Own} (h : WorkX T w B pb s X) (ho : o ∈ X) : o.lies w B := by
 obtain ⟨hv, mv, vh, vf, vm, h⟩ := h
 exact h.rx ho
theorem WorkAt.turn {o o' : Own} (h : WorkAt T w B pb s hv mv vh vf vm (o :: X)) {w' : World} (hg : w.grownBy w' o.v.ownBlock) (ho : o'.lies w' B) (hn : ∀ k, o'.v.ownBlock = some k → o.v.ownBlock = some k ∨ w.heap.size ≤ k) : WorkAt T w' B pb s hv mv vh vf vm (o' :: X) :=
 ⟨h.hooks, h.made, ((h.owns.perm perm_beside.symm).turn hg ho hn).perm perm_beside⟩
theorem WorkX.turn {o o' : Own} (h : WorkX T w B pb s (o :: X)) {w' : World} (hg : w.grownBy w' o.v.ownBlock) (ho : o'.lies w' B) (hn : ∀ k, o'.v.ownBlock = some k → o.v.ownBlock = some k ∨ w.heap.size ≤ k) : WorkX T w' B pb s (o' :: X) := by
 obtain ⟨hv, mv, vh, vf, vm, h⟩ := h
 exact ⟨hv, mv, vh, vf, vm, h.turn hg ho hn⟩
theorem WorkAt.setHooks (h : WorkAt T w B pb s hv mv vh vf vm X) {w' : World} {vh' : Value} {hv' : List (Hk × Value)} {X' : List Own} {l : List Hk} (hg : w.grownBy w' vh.ownBlock) (ho : (rowH vh' hv').lies w' B) (hn : ∀ k, vh'.ownBlock = some k → vh.ownBlock = some k ∨ w.heap.size ≤ k)
 (hl : hv'.map Prod.fst = l) (hp : (hv.map rowL ++ X).Perm (hv'.map rowL ++ X')) : WorkAt T (w'.setCell ⟨pb, 1, none⟩ vh') B pb { s with hooks := l } hv' mv vh' vf vm X' := by
 have h1 := (h.owns.swap).turn (o' := rowH vh' hv') hg ho hn
 have h2 := rowP_set (h1.swap) 1 vh'
 exact ⟨hl, h.made, h2.perm (perm_loops hp)⟩
theorem WorkAt.setFeeds (h : WorkAt T w B pb s hv mv vh vf vm X) {w' : World} {vf' : Value} {l : List Fd} (hg : w.grownBy w' vf.ownBlock) (ho : (rowF vf' l).lies w' B) (hn : ∀ k, vf'.ownBlock = some k → vf.ownBlock = some k ∨ w.heap.size ≤ k) :
 WorkAt T (w'.setCell ⟨pb, 2, none⟩ vf') B pb { s with feeds := l } hv mv vh vf' vm X := by
 have p1 : ∀ {P H F : Own} {R : List Own}, (P :: H :: F :: R).Perm (F :: P :: H :: R) := fun {P H F R} => (List.Perm.cons P (List.Perm.swap F H R)).trans (List.Perm.swap F P (H :: R))
 have h1 := (h.owns.perm p1).turn (o' := rowF vf' l) hg ho hn
 have h2 := rowP_set (h1.perm p1.symm) 2 vf'
 exact ⟨h.hooks, h.made, h2⟩
theorem WorkAt.turnFeeds (h : WorkAt T w B pb s hv mv vh vf vm X) {w' : World} {l : List Fd} (hg : w.grownBy w' vf.ownBlock) (ho : (rowF vf l).lies w' B) : WorkAt T w' B pb { s with feeds := l } hv mv vh vf vm X := by
 have p1 : ∀ {P H F : Own} {R : List Own}, (P :: H :: F :: R).Perm (F :: P :: H :: R) := fun {P H F R} => (List.Perm.cons P (List.Perm.swap F H R)).trans (List.Perm.swap F P (H :: R))
 have h1 := (h.owns.perm p1).turn (o' := rowF vf l) hg ho (fun k hk => Or.inl hk)
 exact ⟨h.hooks, h.made, h1.perm p1.symm⟩
theorem WorkAt.setMade (h : WorkAt T w B pb s hv mv vh vf vm X) {w' : World} {vm' : Value} {mv' : List (Mk × Value)} {X' : List Own} {l : List Mk} (hg : w.grownBy w' vm.ownBlock) (ho : (rowM vm' mv').lies w' B) (hn : ∀ k, vm'.ownBlock = some k → vm.ownBlock = some k ∨ w.heap.size ≤ k)
 (hl : mv'.map Prod.fst = l) (hp : (mv.map rowQ ++ X).Perm (mv'.map rowQ ++ X')) : WorkAt T (w'.setCell ⟨pb, 3, none⟩ vm') B pb { s with made := l } hv mv' vh vf vm' X' := by
 have p1 : ∀ {P H F M : Own} {R : List Own}, (P :: H :: F :: M :: R).Perm (M :: P :: H :: F :: R) := fun {P H F M R} =>
  ((List.Perm.cons P ((List.Perm.cons H (List.Perm.swap M F R)).trans (List.Perm.swap M H (F :: R)))).trans (List.Perm.swap M P (H :: F :: R)))
 have h1 := (h.owns.perm p1).turn (o' := rowM vm' mv') hg ho hn
 have h2 := rowP_set (h1.perm p1.symm) 3 vm'
 refine ⟨h.hooks, hl, h2.perm ?_⟩
 exact List.Perm.cons _ (List.Perm.cons _ (List.Perm.cons _ (List.Perm.cons _ (List.Perm.append_left _ hp))))
theorem WorkAt.setRack (h : WorkAt T w B pb s hv mv vh vf vm X) (r : Int) : WorkAt T (w.setCell ⟨pb, 0, none⟩ (.int .i64 r)) B pb { s with rack := r } hv mv vh vf vm X :=
 ⟨h.hooks, h.made, rowP_set h.owns 0 (.int .i64 r)⟩
theorem WorkAt.pbH (h : WorkAt T w B pb s hv mv vh vf vm X) : vh.ownBlock ≠ some pb := (List.pairwise_cons.1 h.owns.apart).1 (rowH vh hv) (by simp) pb rfl
theorem WorkAt.pbF (h : WorkAt T w B pb s hv mv vh vf vm X) : vf.ownBlock ≠ some pb := (List.pairwise_cons.1 h.owns.apart).1 (rowF vf s.feeds) (by simp) pb rfl
theorem WorkAt.pbM (h : WorkAt T w B pb s hv mv vh vf vm X) : vm.ownBlock ≠ some pb := (List.pairwise_cons.1 h.owns.apart).1 (rowM vm mv) (by simp) pb rfl
theorem WorkAt.struct (h : WorkAt T w B pb s hv mv vh vf vm X) {w' : World} {row : Option Nat} (hg : w.grownBy w' row) (hne : row ≠ some pb) :
 w'.cell? ⟨pb, 0, none⟩ = some (.int .i64 s.rack) ∧ w'.cell? ⟨pb, 1, none⟩ = some vh ∧ w'.cell? ⟨pb, 2, none⟩ = some vf ∧ w'.cell? ⟨pb, 3, none⟩ = some vm ∧ ∀ k, w'.frozen? ⟨pb, k, none⟩ = false := by
 have hb : w'.heap[pb]? = w.heap[pb]? := hg.block pb h.base.2 (fun e => hne e.symm)
 obtain ⟨c0, c1, c2, c3, c4⟩ := h.cells
 exact ⟨(World.cell?_of_block (a := ⟨pb, 0, none⟩) hb).trans c0, (World.cell?_of_block (a := ⟨pb, 1, none⟩) hb).trans c1, (World.cell?_of_block (a := ⟨pb, 2, none⟩) hb).trans c2, (World.cell?_of_block (a := ⟨pb, 3, none⟩) hb).trans c3, fun k => (World.frozen?_of_block (a := ⟨pb, k, none⟩) hb).trans (c4 k)⟩
end
def OldI (w : World) (B : Nat) (v : Value) (l : List Int) : Prop := ∃ A c, v = .slice A l.length c ∧ SlI w B A l
theorem OldI.one {w : World} {B : Nat} {v : Value} {l : List Int} (h : OldI w B v l) : v.oneCell' = true := by
 obtain ⟨A, c, rfl, _⟩ := h
 rfl
theorem choose_at {α : Type} {Q : Nat → α → Value → Prop} : ∀ {l : List α}, (∀ j x, l[j]? = some x → ∃ v, Q j x v) → ∃ hv : List (α × Value), hv.map Prod.fst = l ∧ ∀ j p, hv[j]? = some p → Q j p.1 p.2
 | [], _ => ⟨[], rfl, fun j p h => by simp at h⟩
 | a :: l, h => by
   obtain ⟨v, hv0⟩ := h 0 a rfl
   obtain ⟨hv, e, hq⟩ := choose_at (Q := fun j => Q (j + 1)) (l := l) (fun j x hx => h (j + 1) x (by simpa using hx))
   refine ⟨(a, v) :: hv, by simp [e], fun j p hp => ?_⟩
   cases j with
   | zero => simp at hp; subst hp; exact hv0
   | succ j => exact hq j p (by simpa using hp)
theorem SlHk.vals {w : World} {B : Nat} {A : Option Addr} {l : List Hk} (h : SlHk w B A l) : ∃ hv : List (Hk × Value), hv.map Prod.fst = l ∧ SlS 3 w B A (hv.map hookCells) ∧ ∀ p ∈ hv, OldI w B p.2 p.1.loops := by
 by_cases hn : l = []
 · subst hn
   exact ⟨[], rfl, SlS.nil, by simp⟩
 · obtain ⟨b, off, e, hb, hc⟩ := h hn
   obtain ⟨hv, e1, hq⟩ := choose_at (Q := fun j (r : Hk) v => w.cell? ⟨b, off + j * 3, none⟩ = some (.int .u8 r.bed) ∧ w.cell? ⟨b, off + j * 3 + 1, none⟩ = some (.int .i64 r.at_) ∧ w.cell? ⟨b, off + j * 3 + 2, none⟩ = some v ∧ OldI w B v r.loops) (l := l) (fun j r hr => by
    obtain ⟨A', C', h0, h1, h2, h3, h4⟩ := hc j r hr
    exact ⟨_, h0, h1, h2, A', C', rfl, h4⟩)
   refine ⟨hv, e1, fun _ => ⟨b, off, e, hb, fun j cs hz i v hv' => ?_⟩, fun p hp => ?_⟩
   · rw [List.getElem?_map] at hz
     cases hp : hv[j]? with
     | none => rw [hp] at hz; cases hz
     | some p =>
       rw [hp] at hz
       simp only [Option.map_some, Option.some.injEq] at hz
       subst hz
       obtain ⟨h0, h1, h2, _⟩ := hq j p hp
       match i, hv' with
       | 0, hv' => cases hv'; exact h0
       | 1, hv' => cases hv'; exact h1
       | 2, hv' => cases hv'; exact h2
   · obtain ⟨j, hj⟩ := List.mem_iff_getElem?.1 hp
     exact (hq j p hj).2.2.2
theorem SlM.vals {w : World} {B : Nat} {A : Option Addr} {l : List Mk} (h : SlM w B A l) : ∃ hv : List (Mk × Value), hv.map Prod.fst = l ∧ SlS 4 w B A (hv.map makeCells) ∧ ∀ p ∈ hv, OldI w B p.2 p.1.parents := by
 by_cases hn : l = []
 · subst hn
   exact ⟨[], rfl, SlS.nil, by simp⟩
 · obtain ⟨b, off, e, hb, hc⟩ := h hn
   obtain ⟨hv, e1, hq⟩ := choose_at (Q := fun j (r : Mk) v => w.cell? ⟨b, off + j * 4, none⟩ = some v ∧ w.cell? ⟨b, off + j * 4 + 1, none⟩ = some (.int .u8 r.bed) ∧ w.cell? ⟨b, off + j * 4 + 2, none⟩ = some (.int .i64 r.at_) ∧ w.cell? ⟨b, off + j * 4 + 3, none⟩ = some (.int .i64 r.car) ∧ OldI w B v r.parents) (l := l) (fun j r hr => by
    obtain ⟨A', C', h0, h1, h2, h3, h4, h5⟩ := hc j r hr
    exact ⟨_, h0, h1, h2, h3, A', C', rfl, h5⟩)
   refine ⟨hv, e1, fun _ => ⟨b, off, e, hb, fun j cs hz i v hv' => ?_⟩, fun p hp => ?_⟩
   · rw [List.getElem?_map] at hz
     cases hp : hv[j]? with
     | none => rw [hp] at hz; cases hz
     | some p =>
       rw [hp] at hz
       simp only [Option.map_some, Option.some.injEq] at hz
       subst hz
       obtain ⟨h0, h1, h2, h3, _⟩ := hq j p hp
       match i, hv' with
       | 0, hv' => cases hv'; exact h0
       | 1, hv' => cases hv'; exact h1
       | 2, hv' => cases hv'; exact h2
       | 3, hv' => cases hv'; exact h3
   · obtain ⟨j, hj⟩ := List.mem_iff_getElem?.1 hp
     exact (hq j p hj).2.2.2.2
theorem one4m {mv : List (Mk × Value)} (h : ∀ p ∈ mv, p.2.oneCell' = true) : ∀ v ∈ (mv.map makeCells).flatten, v.oneCell' = true := by
 intro u hu
 obtain ⟨cs, hcs, hu⟩ := List.mem_flatten.1 hu
 obtain ⟨p, hp, rfl⟩ := List.mem_map.1 hcs
 simp only [makeCells, List.mem_cons, List.not_mem_nil, or_false] at hu
 rcases hu with rfl | rfl | rfl | rfl
 · exact h p hp
 · rfl
 · rfl
 · rfl
theorem one3h {hv : List (Hk × Value)} (h : ∀ p ∈ hv, p.2.oneCell' = true) : ∀ v ∈ (hv.map hookCells).flatten, v.oneCell' = true := by
 intro u hu
 obtain ⟨cs, hcs, hu⟩ := List.mem_flatten.1 hu
 obtain ⟨p, hp, rfl⟩ := List.mem_map.1 hcs
 simp only [hookCells, List.mem_cons, List.not_mem_nil, or_false] at hu
 rcases hu with rfl | rfl | rfl
 · rfl
 · rfl
 · exact h p hp
theorem one3f (l : List Fd) : ∀ v ∈ (l.map Fd.cells).flatten, v.oneCell' = true := by
 intro u hu
 obtain ⟨cs, hcs, hu⟩ := List.mem_flatten.1 hu
 obtain ⟨p, hp, rfl⟩ := List.mem_map.1 hcs
 simp only [Fd.cells, List.mem_cons, List.not_mem_nil, or_false] at hu
 rcases hu with rfl | rfl | rfl <;> rfl
theorem intV_one' (l : List Int) : ∀ v ∈ intV l, v.oneCell' = true := by
 intro u hu
 obtain ⟨x, _, rfl⟩ := List.mem_map.1 hu
 rfl
def cloneOut (e0 : TypeId) (sz n : Nat) (xs : List Value) (w : World) (e : Ending) (w' : World) : Prop := ∃ A c, e = .returned (.slice A n c) ∧ (Own.mk e0 sz n (.slice A n c) xs).lies w' w.heap.size ∧ Below w.heap.size w w'
theorem cloneOut.nil (e0 : TypeId) (sz : Nat) (w : World) : cloneOut e0 sz 0 [] w (.returned (.slice none 0 0)) w := ⟨_, _, rfl, World.ownsRow_nil .., Below.refl _ _⟩
theorem cloneH_info : (Tryz.prog.info? 82).map (fun i => (i.zero, i.size, i.bytes)) = some (some (Value.agg #[.int .u8 0, .int .i64 0, .slice none 0 0]), 3, 40) := by kernel_rfl
theorem cloneH_eql (ad : Addr) (n c : Nat) (W : World) : (binOp .eql 33 (.slice (some ad) n c) (.slice none 0 0)).run Tryz.prog W = .ok (.bool false) W := by kernel_rfl
theorem cloneH_eqlN (n c : Nat) (W : World) : (binOp .eql 33 (.slice none n c) (.slice none 0 0)).run Tryz.prog W = .ok (.bool true) W := by kernel_rfl
set_option maxHeartbeats 1000000 in
theorem cloneH_any (A : Option Addr) (c n : Nat) (xs : List Value) (hxs : xs.length = n * 3) (hx1 : ∀ v ∈ xs, v.oneCell' = true) (hn : n ≤ 1000000) (w : World) (hs : 0 < n → ∃ b off, A = some ⟨b, off, none⟩ ∧ b < w.heap.size ∧ ∀ j u, xs[j]? = some u → w.cell? ⟨b, off + j, none⟩ = some u) :
 Calls Tryz.prog 72 #[.slice A n c] w fun e w' => cloneOut 82 3 n xs w e w' := by
 obtain ⟨i0, hi, hz0, hz1, hz2⟩ := info_parts cloneH_info
 cases A with
 | none =>
   have hl : n = 0 := by
    rcases Nat.eq_zero_or_pos n with e | e
    · exact e
    · obtain ⟨b, off, e, _⟩ := hs e
      cases e
   subst hl
   obtain rfl : xs = [] := List.eq_nil_of_length_eq_zero (by omega)
   have HO := Lib.hid (cloneOut.nil 82 3 w)
   have hq := cloneH_eqlN 0 c
   clear hs hxs hx1
   go_enter Tryz.func72, Tryz.ntmps72
   go_wp2
   go_ret
   exact HO.out
 | some ad =>
   have hnews : ∀ j u, xs[j]? = some u → (w.alloc (.cells #[] 82)).cell? (ad.add j) = some u := by
    intro j u hu
    have hp : 0 < n := by
     rcases Nat.eq_zero_or_pos n with e | e
     · have := (List.getElem?_eq_some_iff.1 hu).1
       rw [hxs, e] at this; omega
     · exact e
    obtain ⟨b, off, e, hB, hc⟩ := hs hp
    cases e
    rw [addr_plus]
    exact cell_al (hc j u hu) _
   have HN := Lib.hid hnews
   have HX := Lib.hid hx1
   clear hs hnews hx1
   have hq := cloneH_eql ad n c
   go_enter Tryz.func72, Tryz.ntmps72
   go_wp2_with (at_builtin; refine wpList_append_own _ rfl _ _ 33 rfl w.heap.size 82 i0 (Value.agg #[.int .u8 0, .int .i64 0, .slice none 0 0]) 3 40 Tryz.underlying33 hi hz0 hz1 hz2 rfl (by decide) _ 0 [] rfl (World.ownsRow_lit w #[] 0 (Nat.le_refl _) (by decide) rfl) ad n c xs rfl hxs HN.out HX.out (by unfold maxLen; omega) (by omega) (by simp) ?_; intro v' w1 hown' hgrow _; have HOw := Lib.hid hown'; have HG := Lib.hid hgrow; clear hown' hgrow)
   have ho := HOw.out
   rw [Nat.zero_add, List.nil_append] at ho
   have hB : Below w.heap.size w w1 := ((Below.refl _ w).alloc (Nat.le_refl _) _).grown HG.out (by simp) (fun k e => by cases e; exact Nat.le_refl _)
   obtain ⟨a2, c2, rfl, _⟩ := own_slice ho
   have HO := Lib.hid (show cloneOut 82 3 n xs w (.returned (.slice a2 n c2)) w1 from ⟨_, _, rfl, ho, hB⟩)
   clear ho hB HOw HG
   go_ret
   exact HO.out
theorem cloneF_info : (Tryz.prog.info? 125).map (fun i => (i.zero, i.size, i.bytes)) = some (some (Value.agg #[.int .i64 0, .bool false, .int .i64 0]), 3, 24) := by kernel_rfl
theorem cloneF_eql (ad : Addr) (n c : Nat) (W : World) : (binOp .eql 36 (.slice (some ad) n c) (.slice none 0 0)).run Tryz.prog W = .ok (.bool false) W := by kernel_rfl
theorem cloneF_eqlN (n c : Nat) (W : World) : (binOp .eql 36 (.slice none n c) (.slice none 0 0)).run Tryz.prog W = .ok (.bool true) W := by kernel_rfl
set_option maxHeartbeats 1000000 in
theorem cloneF_any (A : Option Addr) (c n : Nat) (xs : List Value) (hxs : xs.length = n * 3) (hx1 : ∀ v ∈ xs, v.oneCell' = true) (hn : n ≤ 1000000) (w : World) (hs : 0 < n → ∃ b off, A = some ⟨b, off, none⟩ ∧ b < w.heap.size ∧ ∀ j u, xs[j]? = some u → w.cell? ⟨b, off + j, none⟩ = some u) :
 Calls Tryz.prog 73 #[.slice A n c] w fun e w' => cloneOut 125 3 n xs w e w' := by
 obtain ⟨i0, hi, hz0, hz1, hz2⟩ := info_parts cloneF_info
 cases A with
 | none =>
   have hl : n = 0 := by
    rcases Nat.eq_zero_or_pos n with e | e
    · exact e
    · obtain ⟨b, off, e, _⟩ := hs e
      cases e
   subst hl
   obtain rfl : xs = [] := List.eq_nil_of_length_eq_zero (by omega)
   have HO := Lib.hid (cloneOut.nil 125 3 w)
   have hq := cloneF_eqlN 0 c
   clear hs hxs hx1
   go_enter Tryz.func73, Tryz.ntmps73
   go_wp2
   go_ret
   exact HO.out
 | some ad =>
   have hnews : ∀ j u, xs[j]? = some u → (w.alloc (.cells #[] 125)).cell? (ad.add j) = some u := by
    intro j u hu
    have hp : 0 < n := by
     rcases Nat.eq_zero_or_pos n with e | e
     · have := (List.getElem?_eq_some_iff.1 hu).1
       rw [hxs, e] at this; omega
     · exact e
    obtain ⟨b, off, e, hB, hc⟩ := hs hp
    cases e
    rw [addr_plus]
    exact cell_al (hc j u hu) _
   have HN := Lib.hid hnews
   have HX := Lib.hid hx1
   clear hs hnews hx1
   have hq := cloneF_eql ad n c
   go_enter Tryz.func73, Tryz.ntmps73
   go_wp2_with (at_builtin; refine wpList_append_own _ rfl _ _ 36 rfl w.heap.size 125 i0 (Value.agg #[.int .i64 0, .bool false, .int .i64 0]) 3 24 Tryz.underlying36 hi hz0 hz1 hz2 rfl (by decide) _ 0 [] rfl (World.ownsRow_lit w #[] 0 (Nat.le_refl _) (by decide) rfl) ad n c xs rfl hxs HN.out HX.out (by unfold maxLen; omega) (by omega) (by simp) ?_; intro v' w1 hown' hgrow _; have HOw := Lib.hid hown'; have HG := Lib.hid hgrow; clear hown' hgrow)
   have ho := HOw.out
   rw [Nat.zero_add, List.nil_append] at ho
   have hB : Below w.heap.size w w1 := ((Below.refl _ w).alloc (Nat.le_refl _) _).grown HG.out (by simp) (fun k e => by cases e; exact Nat.le_refl _)
   obtain ⟨a2, c2, rfl, _⟩ := own_slice ho
   have HO := Lib.hid (show cloneOut 125 3 n xs w (.returned (.slice a2 n c2)) w1 from ⟨_, _, rfl, ho, hB⟩)
   clear ho hB HOw HG
   go_ret
   exact HO.out
theorem cloneM_info : (Tryz.prog.info? 66).map (fun i => (i.zero, i.size, i.bytes)) = some (some (Value.agg #[.slice none 0 0, .int .u8 0, .int .i64 0, .int .i64 0]), 4, 48) := by kernel_rfl
theorem cloneM_eql (ad : Addr) (n c : Nat) (W : World) : (binOp .eql 37 (.slice (some ad) n c) (.slice none 0 0)).run Tryz.prog W = .ok (.bool false) W := by kernel_rfl
theorem cloneM_eqlN (n c : Nat) (W : World) : (binOp .eql 37 (.slice none n c) (.slice none 0 0)).run Tryz.prog W = .ok (.bool true) W := by kernel_rfl
set_option maxHeartbeats 1000000 in
theorem cloneM_any (A : Option Addr) (c n : Nat) (xs : List Value) (hxs : xs.length = n * 4) (hx1 : ∀ v ∈ xs, v.oneCell' = true) (hn : n ≤ 1000000) (w : World) (hs : 0 < n → ∃ b off, A = some ⟨b, off, none⟩ ∧ b < w.heap.size ∧ ∀ j u, xs[j]? = some u → w.cell? ⟨b, off + j, none⟩ = some u) :
 Calls Tryz.prog 74 #[.slice A n c] w fun e w' => cloneOut 66 4 n xs w e w' := by
 obtain ⟨i0, hi, hz0, hz1, hz2⟩ := info_parts cloneM_info
 cases A with
 | none =>
   have hl : n = 0 := by
    rcases Nat.eq_zero_or_pos n with e | e
    · exact e
    · obtain ⟨b, off, e, _⟩ := hs e
      cases e
   subst hl
   obtain rfl : xs = [] := List.eq_nil_of_length_eq_zero (by omega)
   have HO := Lib.hid (cloneOut.nil 66 4 w)
   have hq := cloneM_eqlN 0 c
   clear hs hxs hx1
   go_enter Tryz.func74, Tryz.ntmps74
   go_wp2
   go_ret
   exact HO.out
 | some ad =>
   have hnews : ∀ j u, xs[j]? = some u → (w.alloc (.cells #[] 66)).cell? (ad.add j) = some u := by
    intro j u hu
    have hp : 0 < n := by
     rcases Nat.eq_zero_or_pos n with e | e
     · have := (List.getElem?_eq_some_iff.1 hu).1
       rw [hxs, e] at this; omega
     · exact e
    obtain ⟨b, off, e, hB, hc⟩ := hs hp
    cases e
    rw [addr_plus]
    exact cell_al (hc j u hu) _
   have HN := Lib.hid hnews
   have HX := Lib.hid hx1
   clear hs hnews hx1
   have hq := cloneM_eql ad n c
   go_enter Tryz.func74, Tryz.ntmps74
   go_wp2_with (at_builtin; refine wpList_append_own _ rfl _ _ 37 rfl w.heap.size 66 i0 (Value.agg #[.slice none 0 0, .int .u8 0, .int .i64 0, .int .i64 0]) 4 48 Tryz.underlying37 hi hz0 hz1 hz2 rfl (by decide) _ 0 [] rfl (World.ownsRow_lit w #[] 0 (Nat.le_refl _) (by decide) rfl) ad n c xs rfl hxs HN.out HX.out (by unfold maxLen; omega) (by omega) (by simp) ?_; intro v' w1 hown' hgrow _; have HOw := Lib.hid hown'; have HG := Lib.hid hgrow; clear hown' hgrow)
   have ho := HOw.out
   rw [Nat.zero_add, List.nil_append] at ho
   have hB : Below w.heap.size w w1 := ((Below.refl _ w).alloc (Nat.le_refl _) _).grown HG.out (by simp) (fun k e => by cases e; exact Nat.le_refl _)
   obtain ⟨a2, c2, rfl, _⟩ := own_slice ho
   have HO := Lib.hid (show cloneOut 66 4 n xs w (.returned (.slice a2 n c2)) w1 from ⟨_, _, rfl, ho, hB⟩)
   clear ho hB HOw HG
   go_ret
   exact HO.out
theorem cloneI_info : (Tryz.prog.info? 3).map (fun i => (i.zero, i.size, i.bytes)) = some (some (Value.int .i64 0), 1, 8) := by kernel_rfl
theorem cloneI_eql (ad : Addr) (n c : Nat) (W : World) : (binOp .eql 22 (.slice (some ad) n c) (.slice none 0 0)).run Tryz.prog W = .ok (.bool false) W := by kernel_rfl
theorem cloneI_eqlN (n c : Nat) (W : World) : (binOp .eql 22 (.slice none n c) (.slice none 0 0)).run Tryz.prog W = .ok (.bool true) W := by kernel_rfl
set_option maxHeartbeats 1000000 in
theorem cloneI_any (A : Option Addr) (c n : Nat) (xs : List Value) (hxs : xs.length = n * 1) (hx1 : ∀ v ∈ xs, v.oneCell' = true) (hn : n ≤ 1000000) (w : World) (hs : 0 < n → ∃ b off, A = some ⟨b, off, none⟩ ∧ b < w.heap.size ∧ ∀ j u, xs[j]? = some u → w.cell? ⟨b, off + j, none⟩ = some u) :
 Calls Tryz.prog 75 #[.slice A n c] w fun e w' => cloneOut 3 1 n xs w e w' := by
 obtain ⟨i0, hi, hz0, hz1, hz2⟩ := info_parts cloneI_info
 cases A with
 | none =>
   have hl : n = 0 := by
    rcases Nat.eq_zero_or_pos n with e | e
    · exact e
    · obtain ⟨b, off, e, _⟩ := hs e
      cases e
   subst hl
   obtain rfl : xs = [] := List.eq_nil_of_length_eq_zero (by omega)
   have HO := Lib.hid (cloneOut.nil 3 1 w)
   have hq := cloneI_eqlN 0 c
   clear hs hxs hx1
   go_enter Tryz.func75, Tryz.ntmps75
   go_wp2
   go_ret
   exact HO.out
 | some ad =>
   have hnews : ∀ j u, xs[j]? = some u → (w.alloc (.cells #[] 3)).cell? (ad.add j) = some u := by
    intro j u hu
    have hp : 0 < n := by
     rcases Nat.eq_zero_or_pos n with e | e
     · have := (List.getElem?_eq_some_iff.1 hu).1
       rw [hxs, e] at this; omega
     · exact e
    obtain ⟨b, off, e, hB, hc⟩ := hs hp
    cases e
    rw [addr_plus]
    exact cell_al (hc j u hu) _
   have HN := Lib.hid hnews
   have HX := Lib.hid hx1
   clear hs hnews hx1
   have hq := cloneI_eql ad n c
   go_enter Tryz.func75, Tryz.ntmps75
   go_wp2_with (at_builtin; refine wpList_append_own _ rfl _ _ 22 rfl w.heap.size 3 i0 (Value.int .i64 0) 1 8 Tryz.underlying22 hi hz0 hz1 hz2 rfl (by decide) _ 0 [] rfl (World.ownsRow_lit w #[] 0 (Nat.le_refl _) (by decide) rfl) ad n c xs rfl hxs HN.out HX.out (by unfold maxLen; omega) (by omega) (by simp) ?_; intro v' w1 hown' hgrow _; have HOw := Lib.hid hown'; have HG := Lib.hid hgrow; clear hown' hgrow)
   have ho := HOw.out
   rw [Nat.zero_add, List.nil_append] at ho
   have hB : Below w.heap.size w w1 := ((Below.refl _ w).alloc (Nat.le_refl _) _).grown HG.out (by simp) (fun k e => by cases e; exact Nat.le_refl _)
   obtain ⟨a2, c2, rfl, _⟩ := own_slice ho
   have HO := Lib.hid (show cloneOut 3 1 n xs w (.returned (.slice a2 n c2)) w1 from ⟨_, _, rfl, ho, hB⟩)
   clear ho hB HOw HG
   go_ret
   exact HO.out
theorem ret_sl {a : Option Addr} {n m c : Nat} (h : n = m) : Ending.returned (.slice a n c) = .returned (.slice a m c) := by rw [h]
theorem info_H : (Tryz.prog.info? 82).map (fun i => (i.zero, i.size, i.bytes)) = some (some (.agg #[.int .u8 0, .int .i64 0, .slice none 0 0]), 3, 40) := by kernel_rfl
theorem size_H : (Tryz.prog.info? 82).map (·.size) = some 3 := by kernel_rfl
theorem zero_H (w : World) : (zeroValue 82).run Tryz.prog w = .ok (.agg #[.int .u8 0, .int .i64 0, .slice none 0 0]) w := by kernel_rfl
set_option maxHeartbeats 4000000 in
theorem deleteH_any (B g n c i : Nat) (xs : List Value) (h1 : ∀ v ∈ xs, v.oneCell' = true) (hn : n ≤ 10000) (w : World) (hl : w.ownsRow B 82 3 (.slice (some ⟨g, 0, none⟩) n c) n xs) (hi : i < n) (j : Nat) (hj : j = i + 1) :
 Calls Tryz.prog 83 #[.slice (some ⟨g, 0, none⟩) n c, .int .i64 i, .int .i64 j] w fun e w' =>
  e = .returned (.slice (some ⟨g, 0, none⟩) (n - 1) c) ∧ w'.ownsRow B 82 3 (.slice (some ⟨g, 0, none⟩) (n - 1) c) (n - 1) (xs.take (i * 3) ++ xs.drop (j * 3)) ∧ w.grownBy w' (some g) := by
 obtain ⟨cur, hg, hBg, hnc, hcm, hcs, htk, hxl⟩ := own_whole hl
 obtain ⟨i0, hi0, hz0, hz1, hz2⟩ := info_parts info_H
 unfold maxLen at hcm
 have hdl : (xs.drop (j * 3)).length = (n - j) * 3 := by rw [List.length_drop, hxl]; omega
 have hsrc : ∀ off, (c = j ∧ off = 0 ∨ off = j * 3) → ∀ t u, (xs.drop (j * 3))[t]? = some u → w.drew.cell? ((⟨g, off, none⟩ : Addr).add t) = some u := fun off ho t u hu => by
  have ht := (List.getElem?_eq_some_iff.1 hu).1
  rw [hdl] at ht
  rcases ho with ⟨h, _⟩ | rfl
  · omega
  · rw [addr_plus]
    rw [List.getElem?_drop, ← htk, List.getElem?_take] at hu
    split at hu
    · show w.cell? _ = some u
      rw [cell_whole hg]; simpa using hu
    · cases hu
 have hnw : ∀ u ∈ xs.drop (j * 3), u.oneCell' = true := fun u hu => h1 u (List.mem_of_mem_drop hu)
 obtain ⟨c1, hc1⟩ : ∃ c1, c1 = (cur.toList.take (i * 3) ++ xs.drop (j * 3) ++ cur.toList.drop (i * 3 + (xs.drop (j * 3)).length)).toArray := ⟨_, rfl⟩
 have hrun : ∀ ty off cc, (c = j ∧ off = 0 ∨ off = j * 3) → (Builtin.append_ #[33, 33] ty #[.slice (some ⟨g, 0, none⟩) i c, .slice (some ⟨g, off, none⟩) (n - j) cc]).run Tryz.prog w.drew =
  .ok (.slice (some ⟨g, 0, none⟩) (i + (n - j)) c) (w.drew.setRow g c1) := fun ty off cc ho => by
  rw [hc1]
  have := run_append_room (P := Tryz.prog) w.drew 33 ty 82 i0 Tryz.underlying33 hi0 g i c cur hg ⟨g, off, none⟩ (n - j) cc (xs.drop (j * 3)) (by rw [hz1]; exact hdl) (hsrc off ho) hnw (by omega) (by rw [hz1, hdl, hcs]; omega)
  rw [hz1] at this
  exact this
 have hc1s : c1.size = c * 3 := by
  rw [hc1]; simp; rw [hxl]; omega
 have hc1t : c1.toList.take ((n - 1) * 3) = xs.take (i * 3) ++ xs.drop (j * 3) := by
  rw [hc1]
  have e1 : cur.toList.take (i * 3) = xs.take (i * 3) := by rw [← htk, List.take_take, Nat.min_eq_left (by omega)]
  rw [e1, List.take_append_of_le_length (by rw [List.length_append, hdl, List.length_take, hxl]; omega), List.take_of_length_le (by rw [List.length_append, hdl, List.length_take, hxl]; omega)]
 have hg1 : (w.drew.setRow g c1).heap[g]? = some (.cells c1 82 (0, 0)) := heap_setRow (w := w.drew) hg
 have hcl : ∀ ty, (Builtin.clear_ #[33] ty #[.slice (some ⟨g, (i + (n - j)) * 3, none⟩) (n - (i + (n - j))) (c - (i + (n - j)))]).run Tryz.prog (w.drew.setRow g c1) = .ok (.tuple #[]) ((w.drew.setRow g c1).setRow g (splice c1.toList ((n - 1) * 3) [Value.int .u8 0, .int .i64 0, .slice none 0 0]).toArray) := fun ty => by
  rw [show i + (n - j) = n - 1 by omega, show n - (n - 1) = 1 by omega]
  exact run_clear_rowk (P := Tryz.prog) _ 33 82 ty _ Tryz.underlying33 zero_H g ((n - 1) * 3) _ c1 _ [Value.int .u8 0, .int .i64 0, .slice none 0 0] hg1 (by kernel_rfl) (by rw [hc1s]; show (n - 1) * 3 + 3 ≤ _; omega) (by intro v hv; simp only [List.mem_cons, List.not_mem_nil, or_false] at hv; rcases hv with rfl | rfl | rfl <;> rfl)
 have HF : Hid ((((w.drew.setRow g c1).setRow g (splice c1.toList ((n - 1) * 3) [Value.int .u8 0, .int .i64 0, .slice none 0 0]).toArray)).ownsRow B 82 3 (.slice (some ⟨g, 0, none⟩) (n - 1) c) (n - 1) (xs.take (i * 3) ++ xs.drop (j * 3)) ∧ w.grownBy ((w.drew.setRow g c1).setRow g (splice c1.toList ((n - 1) * 3) [Value.int .u8 0, .int .i64 0, .slice none 0 0]).toArray) (some g)) := by
  have h3 : ((n - 1) * 3) + ([Value.int .u8 0, .int .i64 0, .slice none 0 0] : List Value).length ≤ c1.toList.length := by show (n - 1) * 3 + 3 ≤ _; rw [Array.length_toList, hc1s]; omega
  refine ⟨?_, grown_trans (w' := w.drew) ⟨rfl, rfl, rfl, Nat.le_refl _, fun _ _ _ => rfl⟩ (grown_trans (grown_setRow w.drew g c1) (grown_setRow _ g _))⟩
  have := own_of_whole (B := B) (n := n - 1) (c := c) (sz := 3) (heap_setRow (cs := (splice c1.toList ((n - 1) * 3) [Value.int .u8 0, .int .i64 0, .slice none 0 0]).toArray) hg1) hBg (by omega) (by unfold maxLen; omega) (by rw [splice_len h3, Array.length_toList, hc1s])
  rw [splice_take (by omega) (Nat.le_refl _), hc1t] at this
  exact this
 have HR : Hid (∀ ty off cc, (c = j ∧ off = 0 ∨ off = j * 3) → (Builtin.append_ #[33, 33] ty #[.slice (some ⟨g, 0, none⟩) i c, .slice (some ⟨g, off, none⟩) (n - j) cc]).run Tryz.prog w.drew =
  .ok (.slice (some ⟨g, 0, none⟩) (i + (n - j)) c) (w.drew.setRow g c1)) := hrun
 have hic : ¬ c = i := by omega
 have hq1 : i ≤ c := by omega
 have hq2 : j ≤ c := by omega
 have hq3 : j ≤ n := by omega
 have hq4 : i ≤ n := by omega
 have hq5 : i ≤ j := by omega
 have hnc1 : ¬ c = i + (n - j) := by omega
 have hij : ¬ i = j := by omega
 have hle : i + (n - j) ≤ n := by omega
 have HE : Hid (i + (n - j) = n - 1) := by unfold Hid; omega
 have hself : c = j → w.drew.setRow g c1 = w.drew := fun e => by
  have e2 : c1 = cur := by
   rw [hc1]
   apply Array.toList_inj.1
   have e3 : (xs.drop (j * 3)) = [] := List.drop_eq_nil_of_le (by rw [hxl]; omega)
   rw [e3]; simp
  rw [e2]
  exact setRow_self w.drew g cur _ _ hg
 clear hrun hc1 hc1s hc1t hg1 hsrc hnw hdl hl h1 hg hcs htk hxl hz0 hz1 hz2 hi0
 have HJ := Lib.hid hj
 clear hj
 by_cases hc : c = j
 · subst hc
   have e0 : w.drew.setRow g c1 = w.drew := hself rfl
   rw [e0] at hcl HF
   clear e0 HR hself
   have hn0 : n - c = 0 := by omega
   simp only [hn0, Nat.add_zero] at hcl
   go_enter Tryz.func83, Tryz.ntmps83
   go_wp2_with fail
   go_region
   go_wp2_with (refine wpList_clear_run _ rfl _ 33 rfl _ (by rfl) (hcl _) ?_)
   go_ret
   have := HJ.out
   exact ⟨ret_sl (by omega), HF.out⟩
 · have hrun := Lib.hid (fun ty => HR.out ty (j * 3) (c - j) (Or.inr rfl))
   clear hself
   go_enter Tryz.func83, Tryz.ntmps83
   go_wp2_with fail
   go_region_law (refine step_append_run rfl _ _ 33 33 rfl _ _ (by simp [Act.eval, Act.put]) (by simp [Act.eval, Act.put]) (hrun.out _) ?_)
   go_wp2_with (refine wpList_clear_run _ rfl _ 33 rfl _ (by rfl) (hcl _) ?_)
   go_ret
   exact ⟨ret_sl HE.out, HF.out⟩
theorem info_F : (Tryz.prog.info? 125).map (fun i => (i.zero, i.size, i.bytes)) = some (some (.agg #[.int .i64 0, .bool false, .int .i64 0]), 3, 24) := by kernel_rfl
theorem size_F : (Tryz.prog.info? 125).map (·.size) = some 3 := by kernel_rfl
theorem zero_F (w : World) : (zeroValue 125).run Tryz.prog w = .ok (.agg #[.int .i64 0, .bool false, .int .i64 0]) w := by kernel_rfl
set_option maxHeartbeats 4000000 in
theorem deleteF_any (B g n c i : Nat) (xs : List Value) (h1 : ∀ v ∈ xs, v.oneCell' = true) (hn : n ≤ 10000) (w : World) (hl : w.ownsRow B 125 3 (.slice (some ⟨g, 0, none⟩) n c) n xs) (hi : i < n) (j : Nat) (hj : j = i + 1) :
 Calls Tryz.prog 106 #[.slice (some ⟨g, 0, none⟩) n c, .int .i64 i, .int .i64 j] w fun e w' =>
  e = .returned (.slice (some ⟨g, 0, none⟩) (n - 1) c) ∧ w'.ownsRow B 125 3 (.slice (some ⟨g, 0, none⟩) (n - 1) c) (n - 1) (xs.take (i * 3) ++ xs.drop (j * 3)) ∧ w.grownBy w' (some g) := by
 obtain ⟨cur, hg, hBg, hnc, hcm, hcs, htk, hxl⟩ := own_whole hl
 obtain ⟨i0, hi0, hz0, hz1, hz2⟩ := info_parts info_F
 unfold maxLen at hcm
 have hdl : (xs.drop (j * 3)).length = (n - j) * 3 := by rw [List.length_drop, hxl]; omega
 have hsrc : ∀ off, (c = j ∧ off = 0 ∨ off = j * 3) → ∀ t u, (xs.drop (j * 3))[t]? = some u → w.drew.cell? ((⟨g, off, none⟩ : Addr).add t) = some u := fun off ho t u hu => by
  have ht := (List.getElem?_eq_some_iff.1 hu).1
  rw [hdl] at ht
  rcases ho with ⟨h, _⟩ | rfl
  · omega
  · rw [addr_plus]
    rw [List.getElem?_drop, ← htk, List.getElem?_take] at hu
    split at hu
    · show w.cell? _ = some u
      rw [cell_whole hg]; simpa using hu
    · cases hu
 have hnw : ∀ u ∈ xs.drop (j * 3), u.oneCell' = true := fun u hu => h1 u (List.mem_of_mem_drop hu)
 obtain ⟨c1, hc1⟩ : ∃ c1, c1 = (cur.toList.take (i * 3) ++ xs.drop (j * 3) ++ cur.toList.drop (i * 3 + (xs.drop (j * 3)).length)).toArray := ⟨_, rfl⟩
 have hrun : ∀ ty off cc, (c = j ∧ off = 0 ∨ off = j * 3) → (Builtin.append_ #[36, 36] ty #[.slice (some ⟨g, 0, none⟩) i c, .slice (some ⟨g, off, none⟩) (n - j) cc]).run Tryz.prog w.drew =
  .ok (.slice (some ⟨g, 0, none⟩) (i + (n - j)) c) (w.drew.setRow g c1) := fun ty off cc ho => by
  rw [hc1]
  have := run_append_room (P := Tryz.prog) w.drew 36 ty 125 i0 Tryz.underlying36 hi0 g i c cur hg ⟨g, off, none⟩ (n - j) cc (xs.drop (j * 3)) (by rw [hz1]; exact hdl) (hsrc off ho) hnw (by omega) (by rw [hz1, hdl, hcs]; omega)
  rw [hz1] at this
  exact this
 have hc1s : c1.size = c * 3 := by
  rw [hc1]; simp; rw [hxl]; omega
 have hc1t : c1.toList.take ((n - 1) * 3) = xs.take (i * 3) ++ xs.drop (j * 3) := by
  rw [hc1]
  have e1 : cur.toList.take (i * 3) = xs.take (i * 3) := by rw [← htk, List.take_take, Nat.min_eq_left (by omega)]
  rw [e1, List.take_append_of_le_length (by rw [List.length_append, hdl, List.length_take, hxl]; omega), List.take_of_length_le (by rw [List.length_append, hdl, List.length_take, hxl]; omega)]
 have hg1 : (w.drew.setRow g c1).heap[g]? = some (.cells c1 125 (0, 0)) := heap_setRow (w := w.drew) hg
 have hcl : ∀ ty, (Builtin.clear_ #[36] ty #[.slice (some ⟨g, (i + (n - j)) * 3, none⟩) (n - (i + (n - j))) (c - (i + (n - j)))]).run Tryz.prog (w.drew.setRow g c1) = .ok (.tuple #[]) ((w.drew.setRow g c1).setRow g (splice c1.toList ((n - 1) * 3) [Value.int .i64 0, .bool false, .int .i64 0]).toArray) := fun ty => by
  rw [show i + (n - j) = n - 1 by omega, show n - (n - 1) = 1 by omega]
  exact run_clear_rowk (P := Tryz.prog) _ 36 125 ty _ Tryz.underlying36 zero_F g ((n - 1) * 3) _ c1 _ [Value.int .i64 0, .bool false, .int .i64 0] hg1 (by kernel_rfl) (by rw [hc1s]; show (n - 1) * 3 + 3 ≤ _; omega) (by intro v hv; simp only [List.mem_cons, List.not_mem_nil, or_false] at hv; rcases hv with rfl | rfl | rfl <;> rfl)
 have HF : Hid ((((w.drew.setRow g c1).setRow g (splice c1.toList ((n - 1) * 3) [Value.int .i64 0, .bool false, .int .i64 0]).toArray)).ownsRow B 125 3 (.slice (some ⟨g, 0, none⟩) (n - 1) c) (n - 1) (xs.take (i * 3) ++ xs.drop (j * 3)) ∧ w.grownBy ((w.drew.setRow g c1).setRow g (splice c1.toList ((n - 1) * 3) [Value.int .i64 0, .bool false, .int .i64 0]).toArray) (some g)) := by
  have h3 : ((n - 1) * 3) + ([Value.int .i64 0, .bool false, .int .i64 0] : List Value).length ≤ c1.toList.length := by show (n - 1) * 3 + 3 ≤ _; rw [Array.length_toList, hc1s]; omega
  refine ⟨?_, grown_trans (w' := w.drew) ⟨rfl, rfl, rfl, Nat.le_refl _, fun _ _ _ => rfl⟩ (grown_trans (grown_setRow w.drew g c1) (grown_setRow _ g _))⟩
  have := own_of_whole (B := B) (n := n - 1) (c := c) (sz := 3) (heap_setRow (cs := (splice c1.toList ((n - 1) * 3) [Value.int .i64 0, .bool false, .int .i64 0]).toArray) hg1) hBg (by omega) (by unfold maxLen; omega) (by rw [splice_len h3, Array.length_toList, hc1s])
  rw [splice_take (by omega) (Nat.le_refl _), hc1t] at this
  exact this
 have HR : Hid (∀ ty off cc, (c = j ∧ off = 0 ∨ off = j * 3) → (Builtin.append_ #[36, 36] ty #[.slice (some ⟨g, 0, none⟩) i c, .slice (some ⟨g, off, none⟩) (n - j) cc]).run Tryz.prog w.drew =
  .ok (.slice (some ⟨g, 0, none⟩) (i + (n - j)) c) (w.drew.setRow g c1)) := hrun
 have hic : ¬ c = i := by omega
 have hq1 : i ≤ c := by omega
 have hq2 : j ≤ c := by omega
 have hq3 : j ≤ n := by omega
 have hq4 : i ≤ n := by omega
 have hq5 : i ≤ j := by omega
 have hnc1 : ¬ c = i + (n - j) := by omega
 have hij : ¬ i = j := by omega
 have hle : i + (n - j) ≤ n := by omega
 have HE : Hid (i + (n - j) = n - 1) := by unfold Hid; omega
 have hself : c = j → w.drew.setRow g c1 = w.drew := fun e => by
  have e2 : c1 = cur := by
   rw [hc1]
   apply Array.toList_inj.1
   have e3 : (xs.drop (j * 3)) = [] := List.drop_eq_nil_of_le (by rw [hxl]; omega)
   rw [e3]; simp
  rw [e2]
  exact setRow_self w.drew g cur _ _ hg
 clear hrun hc1 hc1s hc1t hg1 hsrc hnw hdl hl h1 hg hcs htk hxl hz0 hz1 hz2 hi0
 have HJ := Lib.hid hj
 clear hj
 by_cases hc : c = j
 · subst hc
   have e0 : w.drew.setRow g c1 = w.drew := hself rfl
   rw [e0] at hcl HF
   clear e0 HR hself
   have hn0 : n - c = 0 := by omega
   simp only [hn0, Nat.add_zero] at hcl
   go_enter Tryz.func106, Tryz.ntmps106
   go_wp2_with fail
   go_region
   go_wp2_with (refine wpList_clear_run _ rfl _ 36 rfl _ (by rfl) (hcl _) ?_)
   go_ret
   have := HJ.out
   exact ⟨ret_sl (by omega), HF.out⟩
 · have hrun := Lib.hid (fun ty => HR.out ty (j * 3) (c - j) (Or.inr rfl))
   clear hself
   go_enter Tryz.func106, Tryz.ntmps106
   go_wp2_with fail
   go_region_law (refine step_append_run rfl _ _ 36 36 rfl _ _ (by simp [Act.eval, Act.put]) (by simp [Act.eval, Act.put]) (hrun.out _) ?_)
   go_wp2_with (refine wpList_clear_run _ rfl _ 36 rfl _ (by rfl) (hcl _) ?_)
   go_ret
   exact ⟨ret_sl HE.out, HF.out⟩
end Go.Proofs.YtflpikickbellaaGreat
