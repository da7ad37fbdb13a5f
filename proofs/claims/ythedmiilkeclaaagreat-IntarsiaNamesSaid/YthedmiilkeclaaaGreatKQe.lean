/- The reference's works and done, plain: its order of steps comes to the same state. The reference: put and append on the state behind the pointer, made ready. The reference: put and append behind the pointer, in the worlds of a region. -/
import Derived.Test.YthedmiilkeclaaaGreatKQd
import Derived.Test.YthedmiilkeclaaaGreatKQc
namespace Go.Proofs.YthedmiilkeclaaaGreat
open Go.RowKit
set_option maxRecDepth 100000

theorem put_take (l : List Hk) (b n : Int) (ls : List Int) : putAt (putAt l b n []) b n ls = putAt l b n ls := by
  have h : putAt l b n [] = setF (keyH b n) [] l := by unfold putAt; rw [if_pos rfl]
  rw [h]
  unfold putAt
  generalize (if ls = [] then ([] : List Hk) else [⟨b, n, ls⟩]) = xs
  have h1 := loF_set (keyH b n) l
  have h2 := hiF_set (keyH b n) l
  unfold setF at h1 h2 ⊢
  rw [h1, h2]
theorem set_nil {α : Type} {f : α → Int} {l : List α} (h : Mono f l) : setF f [] l = l.filter fun x => decide (f x ≠ 0) := by
  have sp := (split3 h).1
  have e : (loF f l ++ (eqF f l ++ hiF f l)).filter (fun x => decide (f x ≠ 0)) = loF f l ++ hiF f l := by
    rw [List.filter_append, List.filter_append, List.filter_eq_self.2 (fun x hx => by have := loF_lo hx; simp; omega), List.filter_eq_nil_iff.2 (fun x hx => by have := (List.mem_filter.1 hx).2; simpa using this),
      List.filter_eq_self.2 (fun x hx => by have := hiF_hi hx; simp; omega), List.nil_append]
  rw [← sp] at e
  unfold setF
  rw [e, List.nil_append]
theorem filter_lo {α : Type} (p : α → Bool) (f : α → Int) (l : List α) : loF f (l.filter p) = (loF f l).filter p := by unfold loF; rw [List.filter_filter, List.filter_filter]; congr 1; funext x; exact Bool.and_comm _ _
theorem filter_hi {α : Type} (p : α → Bool) (f : α → Int) (l : List α) : hiF f (l.filter p) = (hiF f l).filter p := by unfold hiF; rw [List.filter_filter, List.filter_filter]; congr 1; funext x; exact Bool.and_comm _ _
theorem put_comm {l : List Hk} (hr : risB ltH l = true) {b n b' n' : Int} (ls : List Int) (hne : b ≠ b' ∨ n ≠ n') : putAt (putAt l b n []) b' n' ls = putAt (putAt l b' n' ls) b n [] := by
  have h0 : ∀ L : List Hk, putAt L b n [] = setF (keyH b n) [] L := fun L => by unfold putAt; rw [if_pos rfl]
  rw [h0, h0, set_nil (monoH hr b n), set_nil (monoH (put_pair hr b' n' ls) b n)]
  unfold putAt setF
  rw [List.filter_append, List.filter_append, filter_lo, filter_hi]
  congr 2
  refine (List.filter_eq_self.2 fun x hx => ?_).symm
  split at hx
  · cases hx
  · rw [List.mem_singleton.1 hx]
    refine decide_eq_true fun e => ?_
    have := (key_cases (b := b) (n := n) ⟨b', n', ls⟩).2.1.1 e
    simp only at this
    omega
theorem lay_take {s : BedS} (hr : risB ltH s.hooks = true) {b n b' n' : Int} (l : List Int) (hne : b ≠ b' ∨ n ≠ n') : layS (takeS s b n) b' n' l = (layS s b' n' l).map fun t => takeS t b n := by
  unfold layS takeS
  simp only []
  rw [held_put_ne hr _ hne]
  split
  · rfl
  · simp only [Option.map_some]
    rw [put_comm hr _ hne]
theorem across_take {s : BedS} (hr : risB ltH s.hooks = true) (i : Ins) (l : List Int) : acrossS (takeS s i.bed i.at_) i l = (acrossS s i l).map fun t => takeS t i.bed i.at_ := by
  unfold acrossS
  have e : (takeS s i.bed i.at_).rack = s.rack := rfl
  rw [e]
  split
  · rfl
  · exact lay_take hr l (Or.inl (by omega))
theorem knit_take (u : BedS) (i : Ins) (old : List Int) : knitS (takeS u i.bed i.at_) i old = if u.made.length = 4000 then (bed0, 4) else ({ u with hooks := putAt u.hooks i.bed i.at_ [(u.made.length : Int)], made := u.made ++ [⟨old, i.bed, i.at_, i.car⟩] }, 0) := by
  unfold knitS
  have e : (takeS u i.bed i.at_).made = u.made := rfl
  rw [e]
  split
  · rfl
  · unfold loopS takeS
    simp only []
    rw [put_take]
/-- What works does, in the reference's order. -/
theorem yarn_ref {s t : BedS} {i : Ins} (hk : StOk t) (hp : passS s i = some t) :
    (i.op = 5 → yarnS s i = (t, 0)) ∧
    (i.op = 4 → yarnS s i = if (heldAt t.hooks i.bed i.at_).length = 6 then (bed0, 36) else if t.made.length = 4000 then (bed0, 4) else ({ t with hooks := putAt t.hooks i.bed i.at_ (heldAt t.hooks i.bed i.at_ ++ [(t.made.length : Int)]), made := t.made ++ [⟨[], i.bed, i.at_, i.car⟩] }, 0)) ∧
    (i.op = 6 → (acrossS t i (heldAt t.hooks i.bed i.at_) = none → yarnS s i = (bed0, 36)) ∧
      ∀ u, acrossS t i (heldAt t.hooks i.bed i.at_) = some u → yarnS s i = if u.made.length = 4000 then (bed0, 4) else ({ u with hooks := putAt u.hooks i.bed i.at_ [(u.made.length : Int)], made := u.made ++ [⟨heldAt t.hooks i.bed i.at_, i.bed, i.at_, i.car⟩] }, 0)) ∧
    (i.op = 3 → yarnS s i = if t.made.length = 4000 then (bed0, 4) else ({ t with hooks := putAt t.hooks i.bed i.at_ [(t.made.length : Int)], made := t.made ++ [⟨heldAt t.hooks i.bed i.at_, i.bed, i.at_, i.car⟩] }, 0)) := by
  have h6 := hk.held i.bed i.at_
  refine ⟨fun h => ?_, fun h => ?_, fun h => ⟨fun ha => ?_, fun u ha => ?_⟩, fun h => ?_⟩
  · unfold yarnS; rw [hp]; simp only []; rw [if_pos h]
  · unfold yarnS; rw [hp]; simp only []; rw [if_neg (by omega), if_pos h]
    unfold layS
    by_cases e : (heldAt t.hooks i.bed i.at_).length = 6
    · rw [if_pos e, if_pos (by rw [List.length_append, e, List.length_singleton]; omega)]
    · rw [if_neg e, if_neg (by rw [List.length_append, List.length_singleton]; omega)]
      rfl
  · unfold yarnS; rw [hp]; simp only []; rw [if_neg (by omega), if_neg (by omega), if_pos h, across_take hk.seek.ris, ha]
    rfl
  · unfold yarnS; rw [hp]; simp only []; rw [if_neg (by omega), if_neg (by omega), if_pos h, across_take hk.seek.ris, ha]
    simp only [Option.map_some]
    exact knit_take u i _
  · unfold yarnS; rw [hp]; simp only []; rw [if_neg (by omega), if_neg (by omega), if_neg (by omega)]
    exact knit_take t i _
/-- What done does, in the reference's order. -/
theorem do_ref {s : BedS} {i : Ins} (hk : StOk s) :
    ((i.op = 1 ∨ i.op = 2) → doI s i = changeS s i) ∧ (i.op = 8 → doI s i = ({ s with rack := i.rack }, 0)) ∧ (i.op = 9 → doI s i = ({ s with hooks := putAt s.hooks i.bed i.at_ [] }, 0)) ∧
    (i.op = 7 → (acrossS s i (heldAt s.hooks i.bed i.at_) = none → doI s i = (bed0, 36)) ∧ ∀ u, acrossS s i (heldAt s.hooks i.bed i.at_) = some u → doI s i = ({ u with hooks := putAt u.hooks i.bed i.at_ [] }, 0)) ∧
    ((i.op = 3 ∨ i.op = 4 ∨ i.op = 5 ∨ i.op = 6) → doI s i = yarnS s i) := by
  refine ⟨fun h => ?_, fun h => ?_, fun h => ?_, fun h => ⟨fun ha => ?_, fun u ha => ?_⟩, fun h => ?_⟩
  · unfold doI changeS
    rcases h with h | h
    · rw [if_pos h, if_pos h]
    · have h1 : ¬ i.op = 1 := by omega
      rw [if_neg h1, if_pos h, if_neg h1]
  · unfold doI; rw [if_neg (by omega), if_neg (by omega), if_pos h]
  · unfold doI; rw [if_neg (by omega), if_neg (by omega), if_neg (by omega), if_pos h]; rfl
  · unfold doI; rw [if_neg (by omega), if_neg (by omega), if_neg (by omega), if_neg (by omega), if_pos h, across_take hk.seek.ris, ha]; rfl
  · unfold doI; rw [if_neg (by omega), if_neg (by omega), if_neg (by omega), if_neg (by omega), if_pos h, across_take hk.seek.ris, ha]; rfl
  · unfold doI; rw [if_neg (by omega), if_neg (by omega), if_neg (by omega), if_neg (by omega), if_neg (by omega)]
end Go.Proofs.YthedmiilkeclaaaGreat
namespace Go.Proofs.YthedmiilkeclaaaGreat
open Go.RowKit Go.Shelf
set_option maxRecDepth 100000

/-- put is called, its result is stored: what is known in the world between. -/
def putRd (B pb : Nat) (u : BedS) (b n : Int) (l : List Int) (vh vf vm : Value) (X : List Own) (W : World) (e : Ending) (w' : World) : Prop :=
  ∃ A m c, e = .returned (.agg #[.int .i64 u.rack, .slice A m c, vf, vm]) ∧ Below W.heap.size W w' ∧
    (w'.cell? ⟨pb, 0, none⟩ = some (.int .i64 u.rack) ∧ w'.cell? ⟨pb, 1, none⟩ = some vh ∧ w'.cell? ⟨pb, 2, none⟩ = some vf ∧ w'.cell? ⟨pb, 3, none⟩ = some vm ∧ ∀ k, w'.frozen? ⟨pb, k, none⟩ = false) ∧
    Hid (WorkX 48 (stW w' pb (.int .i64 u.rack) (.slice A m c) vf vm) B pb { u with hooks := putAt u.hooks b n l } X) ∧ Hid (Below B W (stW w' pb (.int .i64 u.rack) (.slice A m c) vf vm))
theorem rput_ready {W : World} {B pb : Nat} {u : BedS} {hv : List (Hk × Value)} {mv : List (Mk × Value)} {p : BedP} {X : List Own} {A : Option Addr} {c : Nat} {l : List Int} {b n : Int} (hk : StOk u) (hB : B ≤ W.heap.size)
    (h : WorkAt 48 W B pb u hv mv (.slice p.ah u.hooks.length p.ch) (.slice p.af u.feeds.length p.cf) (.slice p.am u.made.length p.cm) (rowI (.slice A l.length c) l :: X)) :
    Calls Tryz.prog 115 #[.agg #[.int .i64 u.rack, .slice p.ah u.hooks.length p.ch, .slice p.af u.feeds.length p.cf, .slice p.am u.made.length p.cm], .int .u8 b, .int .i64 n, .slice A l.length c] W fun e w' => putRd B pb u b n l (.slice p.ah u.hooks.length p.ch) (.slice p.af u.feeds.length p.cf) (.slice p.am u.made.length p.cm) X W e w' := by
  have hlen := h.hlen
  have hc := h.cells
  have hpl := h.base
  refine Calls.mono (R := fun e w' => putOut u.rack (putV b n l (.slice A l.length c) hv) (.slice p.af u.feeds.length p.cf) (.slice p.am u.made.length p.cm) W e w') ?_ ?_
  · have e0 : (Value.slice p.ah u.hooks.length p.ch) = .slice p.ah hv.length p.ch := by rw [hlen]
    rw [e0]
    refine rput_any u.rack b n l A c hv p.ah p.ch _ _ _ _ _ _ (monoV h.hooks hk.seek.ris _ _) (by have := hk.seek.1; omega) (fun q hq => ?_) _ ?_
    · obtain ⟨A2, c2, e2, -, -⟩ := rowI_form (v := q.2) (l := q.1.loops) (h.rl hq)
      exact ⟨A2, c2, e2⟩
    · refine SlS.of_own (zs := hv.map hookCells) (e := 92) cells3h (by rw [List.length_map]) (n := hv.length) (c := p.ch) (B := B) ?_
      have := h.rh
      unfold rowH Own.lies at this
      rw [← hlen] at this
      exact this
  · rintro e w' ⟨A9, c9, rfl, hrow, hb⟩
    have hs := put_store (b := b) (n := n) hk.seek.ris h hb hrow
    refine ⟨A9, _, c9, rfl, hb, ⟨(bcell hb hpl.2 0).trans hc.1, (bcell hb hpl.2 1).trans hc.2.1, (bcell hb hpl.2 2).trans hc.2.2.1, (bcell hb hpl.2 3).trans hc.2.2.2.1, fun k => (Below.frozen hb (p := ⟨pb, k, none⟩) hpl.2).trans (hc.2.2.2.2 k)⟩, ⟨_, _, _, _, _, hs⟩, ?_⟩
    exact ((((hb.mono hB).setCell (p := ⟨pb, 0, none⟩) hpl.1 _).setCell (p := ⟨pb, 1, none⟩) hpl.1 _).setCell (p := ⟨pb, 2, none⟩) hpl.1 _).setCell (p := ⟨pb, 3, none⟩) hpl.1 _
theorem WorkAt.mX {T : TypeId} {w : World} {B pb : Nat} {s : BedS} {hv : List (Hk × Value)} {mv : List (Mk × Value)} {vh vf vm : Value} {X : List Own} {o : Own} {b : Nat} (h : WorkAt T w B pb s hv mv vh vf vm X) (ho : o ∈ X) (hb : o.v.ownBlock = some b) : vm.ownBlock ≠ some b := by
  have h1 := (List.pairwise_cons.1 (List.pairwise_cons.1 (List.pairwise_cons.1 (List.pairwise_cons.1 h.owns.apart).2).2).2).1 o (by simp; exact Or.inr (Or.inr ho))
  intro e
  exact h1 b e hb
/-- A loop is appended behind the pointer. -/
theorem made_ready {W : World} {B pb : Nat} {u : BedS} {hv : List (Hk × Value)} {mv : List (Mk × Value)} {vh vf : Value} {am : Option Addr} {cm : Nat} {X : List Own} {A : Option Addr} {m c : Nat} (x : Mk) (hB : B ≤ W.heap.size) (hn : u.made.length ≤ 9000)
    (h : WorkAt 48 W B pb u hv mv vh vf (.slice am u.made.length cm) (rowI (.slice A m c) x.parents :: X)) :
    ∃ A' c' w', (Builtin.append_ #[46, 46] 46 #[.slice am u.made.length cm, .slice (some ⟨W.heap.size, 0, none⟩) 1 1]).run Tryz.prog (W.alloc (.cells #[.slice A m c, .int .u8 x.bed, .int .i64 x.at_, .int .i64 x.car] 52)).drew = .ok (.slice A' (u.made.length + 1) c') w' ∧
      (w'.cell? ⟨pb, 0, none⟩ = some (.int .i64 u.rack) ∧ w'.cell? ⟨pb, 1, none⟩ = some vh ∧ w'.cell? ⟨pb, 2, none⟩ = some vf ∧ w'.cell? ⟨pb, 3, none⟩ = some (.slice am u.made.length cm) ∧ ∀ k, w'.frozen? ⟨pb, k, none⟩ = false) ∧
      (∀ o ∈ X, ∀ b, o.v.ownBlock = some b → ∀ j, w'.cell? ⟨b, j, none⟩ = W.cell? ⟨b, j, none⟩) ∧
      Hid (WorkX 48 (w'.setCell ⟨pb, 3, none⟩ (.slice A' (u.made.length + 1) c')) B pb { u with made := u.made ++ [x] } X) ∧ Hid (Below B W (w'.setCell ⟨pb, 3, none⟩ (.slice A' (u.made.length + 1) c'))) := by
  obtain ⟨im, him, him0, him1, him2⟩ := info_parts info_made
  have hba : Below W.heap.size W (W.alloc (.cells #[.slice A m c, .int .u8 x.bed, .int .i64 x.at_, .int .i64 x.car] 52)).drew := ((Below.refl _ W).alloc (Nat.le_refl _) _).drew
  have h2 := h.to hba
  have hlen := h.mlen
  have hrm : (W.alloc (.cells #[.slice A m c, .int .u8 x.bed, .int .i64 x.at_, .int .i64 x.car] 52)).drew.ownsRow B 52 4 (.slice am u.made.length cm) u.made.length (mv.map makeCells).flatten := by
    have h0 := h2.rm
    unfold rowM Own.lies at h0
    simp only [hlen] at h0
    exact h0
  obtain ⟨A', c', w', hr, ho, hg, hn'⟩ := run_app_any Tryz.underlying46 him him0 him1 him2 rfl (by decide) hrm (some ⟨W.heap.size, 0, none⟩) 1 1 [.slice A m c, .int .u8 x.bed, .int .i64 x.at_, .int .i64 x.car] rfl (fun e => by cases e) (fun ad e => by cases e; exact newsT W _ _ _ rfl) (one4 _ _ _ _ _ _) (by unfold maxLen; omega) (by omega) (by simp; omega)
  refine ⟨A', c', w', hr, h2.struct hg h2.pbM, fun o hx b hb j => ?_, ⟨_, _, _, _, _, h2.moreMade hg (by rw [hlen]; exact ho) hn'⟩, ?_⟩
  · have hlt := (World.ownsRow.lt (h.rx (List.mem_cons_of_mem _ hx)) b hb).2
    exact (cell_grown hg (by have := hba.size; omega) (fun e => h2.mX (List.mem_cons_of_mem _ hx) hb e) j).trans (bcell hba hlt _)
  exact ((hba.mono hB).trans (Below.of_grown hg (by simp; omega) (fun k hk => (World.ownsRow.lt hrm k hk).1))).setCell (p := ⟨pb, 3, none⟩) h.base.1 _
end Go.Proofs.YthedmiilkeclaaaGreat
namespace Go.Proofs.YthedmiilkeclaaaGreat
open Go.RowKit Go.Shelf Go.Sort
set_option maxRecDepth 100000

/-- The state's four cells, as they are loaded. -/
structure At4 (W : World) (pb : Nat) (t : BedS) (p : BedP) : Prop where
  c0 : W.cell? ⟨pb, 0, none⟩ = some (.int .i64 t.rack)
  c1 : W.cell? ⟨pb, 1, none⟩ = some (.slice p.ah t.hooks.length p.ch)
  c2 : W.cell? ⟨pb, 2, none⟩ = some (.slice p.af t.feeds.length p.cf)
  c3 : W.cell? ⟨pb, 3, none⟩ = some (.slice p.am t.made.length p.cm)
abbrev WkP (W : World) (B pb : Nat) (t : BedS) (hv : List (Hk × Value)) (mv : List (Mk × Value)) (p : BedP) (X : List Own) : Prop := WorkAt 48 W B pb t hv mv (.slice p.ah t.hooks.length p.ch) (.slice p.af t.feeds.length p.cf) (.slice p.am t.made.length p.cm) X
theorem WorkX.open {W : World} {B pb : Nat} {t : BedS} {X : List Own} (h : WorkX 48 W B pb t X) : ∃ hv mv p, WkP W B pb t hv mv p X := by
  obtain ⟨hv, mv, vh, vf, vm, h⟩ := h
  obtain ⟨p, rfl, rfl, rfl, -⟩ := h.bed
  exact ⟨hv, mv, p, h⟩
theorem WkP.at4 {W : World} {B pb : Nat} {t : BedS} {hv : List (Hk × Value)} {mv : List (Mk × Value)} {p : BedP} {X : List Own} (h : WkP W B pb t hv mv p X) : At4 W pb t p := by
  obtain ⟨a, b, c, d, -⟩ := h.cells
  exact ⟨a, b, c, d⟩
theorem WkP.same {W W' : World} {B pb : Nat} {t : BedS} {hv : List (Hk × Value)} {mv : List (Mk × Value)} {p : BedP} {X : List Own} (h : WkP W B pb t hv mv p X) (hb : Below W.heap.size W W') : WkP W' B pb t hv mv p X := h.to hb
/-- What Held hands back, as a row beside the state. -/
theorem rheld_ready {W : World} {B pb : Nat} {t : BedS} {hv : List (Hk × Value)} {mv : List (Mk × Value)} {p : BedP} {X : List Own} (hk : StOk t) (h : WkP W B pb t hv mv p X) (b n : Int) :
    Hid (∀ W', Below W.heap.size W W' → Calls Tryz.prog 116 #[.agg #[.int .i64 t.rack, .slice p.ah t.hooks.length p.ch, .slice p.af t.feeds.length p.cf, .slice p.am t.made.length p.cm], .int .u8 b, .int .i64 n] W' fun e w' => ownOut (heldAt t.hooks b n) W' e w') :=
  fun W' hb => rheldO_any t p b n (by have := hk.seek.1; omega) (fun x hx => by have := hk.loops x hx; omega) W' (h.bedAt hb)
/-- The cells of two boxes keep, where the struct's are stored. -/
theorem st_far {W : World} {b pb : Nat} {a0 a1 a2 a3 : Value} (hne : b ≠ pb) (j : Nat) : (stW W pb a0 a1 a2 a3).cell? ⟨b, j, none⟩ = W.cell? ⟨b, j, none⟩ := by
  have h : ∀ (X : World) (k : Nat) (v : Value), (X.setCell ⟨pb, k, none⟩ v).cell? ⟨b, j, none⟩ = X.cell? ⟨b, j, none⟩ := fun X k v => World.cell?_setCell_other X _ _ _ (fun e => hne (by have := (Addr.mk.inj e).1; omega))
  exact (h _ _ _).trans ((h _ _ _).trans ((h _ _ _).trans (h _ _ _)))
theorem rowX_ne {T : TypeId} {w : World} {B pb bx : Nat} {s : BedS} {hv : List (Hk × Value)} {mv : List (Mk × Value)} {vh vf vm : Value} {X : List Own} {i : Ins} (h : WorkAt T w B pb s hv mv vh vf vm X) (ho : rowX bx i ∈ X) : bx ≠ pb := fun e => h.pbX ho (by rw [e]; rfl)
theorem rowK_ne {T : TypeId} {w : World} {B pb b : Nat} {s : BedS} {hv : List (Hk × Value)} {mv : List (Mk × Value)} {vh vf vm v : Value} {X : List Own} {m : Mk} (h : WorkAt T w B pb s hv mv vh vf vm X) (ho : rowK b v m ∈ X) : b ≠ pb := fun e => h.pbX ho (by rw [e]; rfl)
/-- A loop is appended: what is known in the region's worlds. -/
theorem made_all {W : World} {B pb hb : Nat} {u : BedS} {hv : List (Hk × Value)} {mv : List (Mk × Value)} {p : BedP} {X : List Own} {A : Option Addr} {m c : Nat} (x : Mk) (hB : B ≤ W.heap.size) (hn : u.made.length ≤ 9000) (h : WkP W B pb u hv mv p (rowI (.slice A m c) x.parents :: rowK hb (.slice A m c) x :: X)) :
    ∃ A' c' w', (Builtin.append_ #[46, 46] 46 #[.slice p.am u.made.length p.cm, .slice (some ⟨W.heap.size, 0, none⟩) 1 1]).run Tryz.prog (W.alloc (.cells #[.slice A m c, .int .u8 x.bed, .int .i64 x.at_, .int .i64 x.car] 52)).drew = .ok (.slice A' (u.made.length + 1) c') w' ∧
      (W.cell? ⟨pb, 3, none⟩ = some (.slice p.am u.made.length p.cm) ∧ w'.cell? ⟨pb, 3, none⟩ = some (.slice p.am u.made.length p.cm) ∧ ∀ k, w'.frozen? ⟨pb, k, none⟩ = false) ∧
      Hid (∀ V, (V = W.drew ∨ V = (W.alloc (.cells #[.slice A m c, .int .u8 x.bed, .int .i64 x.at_, .int .i64 x.car] 52)).drew ∨ V = w' ∨ V = w'.setCell ⟨pb, 3, none⟩ (.slice A' (u.made.length + 1) c')) → V.cell? ⟨hb, 0, none⟩ = some (.slice A m c) ∧ V.cell? ⟨hb, 1, none⟩ = some (.int .u8 x.bed) ∧ V.cell? ⟨hb, 2, none⟩ = some (.int .i64 x.at_) ∧ V.cell? ⟨hb, 3, none⟩ = some (.int .i64 x.car)) ∧
      Hid (WorkX 48 (w'.setCell ⟨pb, 3, none⟩ (.slice A' (u.made.length + 1) c')) B pb { u with made := u.made ++ [x] } X) ∧ Hid (Below B W (w'.setCell ⟨pb, 3, none⟩ (.slice A' (u.made.length + 1) c'))) := by
  obtain ⟨A', c', w', hr, hc, hfar, hW, hBe⟩ := made_ready x hB hn h
  have hk := rowK_at (B := B) (v := .slice A m c) (m := x) (b := hb) (h.rx (by simp))
  have hne : hb ≠ pb := rowK_ne h (v := .slice A m c) (m := x) (by simp)
  have hbl := lt_of_cell hk.1
  have hf := hfar (rowK hb (.slice A m c) x) (by simp) hb rfl
  have hso : ∀ j v, (w'.setCell ⟨pb, 3, none⟩ v).cell? ⟨hb, j, none⟩ = w'.cell? ⟨hb, j, none⟩ := fun j v => World.cell?_setCell_other w' _ _ _ (fun e => hne (by have := (Addr.mk.inj e).1; omega))
  have hba : Below W.heap.size W (W.alloc (.cells #[.slice A m c, .int .u8 x.bed, .int .i64 x.at_, .int .i64 x.car] 52)).drew := ((Below.refl _ W).alloc (Nat.le_refl _) _).drew
  refine ⟨A', c', w', hr, ⟨h.cells.2.2.2.1, hc.2.2.2.1, hc.2.2.2.2⟩, fun V hV => ?_, WorkX.less hW.out, hBe⟩
  · rcases hV with rfl | rfl | rfl | rfl
    · exact ⟨hk.1, hk.2.1, hk.2.2.1, hk.2.2.2.1⟩
    · exact ⟨(bcell hba hbl _).trans hk.1, (bcell hba hbl _).trans hk.2.1, (bcell hba hbl _).trans hk.2.2.1, (bcell hba hbl _).trans hk.2.2.2.1⟩
    · exact ⟨(hf 0).trans hk.1, (hf 1).trans hk.2.1, (hf 2).trans hk.2.2.1, (hf 3).trans hk.2.2.2.1⟩
    · exact ⟨(hso 0 _).trans ((hf 0).trans hk.1), (hso 1 _).trans ((hf 1).trans hk.2.1), (hso 2 _).trans ((hf 2).trans hk.2.2.1), (hso 3 _).trans ((hf 3).trans hk.2.2.2.1)⟩
/-- A loop's number is appended to a row beside the state. -/
theorem tuck_app {W : World} {B pb : Nat} {t : BedS} {hv : List (Hk × Value)} {mv : List (Mk × Value)} {p : BedP} {X : List Own} {A : Option Addr} {c : Nat} {old : List Int} (h : WkP W B pb t hv mv p (rowI (.slice A old.length c) old :: X)) (x : Int) (b : Nat) (hnw : ∀ (j : Nat) (u : Value), [Value.int .i64 x][j]? = some u → W.cell? ((⟨b, 0, none⟩ : Addr).add j) = some u) (hB : B ≤ W.heap.size) (hn : old.length ≤ 9000) :
    ∃ A' c' w', (Builtin.append_ #[22, 22] 22 #[.slice A old.length c, .slice (some ⟨b, 0, none⟩) 1 1]).run Tryz.prog W = .ok (.slice A' (old.length + 1) c') w' ∧ WkP w' B pb t hv mv p (rowI (.slice A' (old ++ [x]).length c') (old ++ [x]) :: X) ∧ Below B W w' := by
  obtain ⟨ii, hii, hii0, hii1, hii2⟩ := info_parts info_int'
  have ho : W.ownsRow B 3 1 (.slice A old.length c) old.length (intV old) := h.row
  obtain ⟨A', c', w', hr, ho', hg, hn'⟩ := run_app_any Tryz.underlying22 hii hii0 hii1 hii2 rfl (by decide) ho (some ⟨b, 0, none⟩) 1 1 [.int .i64 x] rfl (fun e => by cases e) (fun ad e => by cases e; exact hnw) (intV_one' [x]) (by unfold maxLen; omega) (by omega) hB
  refine ⟨A', c', w', hr, h.turn hg ?_ ?_, Below.of_grown hg hB (fun g e => (World.ownsRow.lt ho g e).1)⟩
  · show w'.ownsRow B _ 1 (.slice A' (old ++ [x]).length c') (old ++ [x]).length (intV (old ++ [x]))
    rw [List.length_append, List.length_singleton, intV_app]
    exact ho'
  · intro g e
    refine hn' g ?_
    have e' : (Value.slice A' (old ++ [x]).length c').ownBlock = some g := e
    rw [List.length_append, List.length_singleton] at e'
    exact e'
end Go.Proofs.YthedmiilkeclaaaGreat
