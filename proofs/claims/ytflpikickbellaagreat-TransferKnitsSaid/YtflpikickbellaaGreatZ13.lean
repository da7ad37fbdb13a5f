/- Layer 32, plain. -/
import Derived.Test.YtflpikickbellaaGreatZ12
import Derived.Carry
namespace Go.Proofs.YtflpikickbellaaGreat
open Go.RowKit Go.Sort
set_option maxRecDepth 100000
structure OrdI (s : Sft) (come : Nat → Bool) (out : List Int) : Prop where
 ok : okL s out
 mem : ∀ i, i < s.n → ((i : Int) ∈ out ↔ come i = true)
 mv : ∀ i, i < s.n → come i = true → movedN s i = true
 nd : out.Nodup
theorem OrdI.new (s : Sft) : OrdI s (fun _ => false) [] := ⟨(fun x hx => by cases hx), (fun i _ => by simp), (fun i _ h => by cases h), List.Pairwise.nil⟩
theorem waitN_iff {s : Sft} {come : Nat → Bool} {i : Nat} : waitN s come i = true ↔ movedN s i = true ∧ come i = false := by
 unfold waitN
 cases movedN s i <;> cases come i <;> simp
theorem OrdI.put {s : Sft} {come : Nat → Bool} {out : List Int} (h : OrdI s come out) {i : Nat} (hi : i < s.n) (hw : waitN s come i = true) : OrdI s (putN come i) (out ++ [(i : Int)]) := by
 obtain ⟨hm, hc⟩ := waitN_iff.1 hw
 have hni : ¬ (i : Int) ∈ out := fun hx => by
  have := (h.mem i hi).1 hx
  rw [hc] at this; cases this
 refine ⟨okL_app h.ok hi, fun j hj => ?_, fun j hj hcj => ?_, ?_⟩
 · rw [List.mem_append, List.mem_singleton, h.mem j hj]
   unfold putN
   rw [Bool.or_eq_true, decide_eq_true_eq]
   constructor
   · rintro (h1 | h1)
     · exact Or.inl h1
     · exact Or.inr (by omega)
   · rintro (h1 | h1)
     · exact Or.inl h1
     · exact Or.inr (by omega)
 · unfold putN at hcj
   rw [Bool.or_eq_true, decide_eq_true_eq] at hcj
   rcases hcj with h1 | h1
   · exact h.mv j hj h1
   · rw [h1]; exact hm
 · rw [List.nodup_append]
   refine ⟨h.nd, by simp, fun a ha b hb e => ?_⟩
   rw [List.mem_singleton] at hb
   rw [e, hb] at ha
   exact hni ha
theorem inner_inv {s : Sft} {t : Int} : ∀ (f : Nat) (come : Nat → Bool) (out : List Int) (come' : Nat → Bool) (out' : List Int), OrdI s come out → leftN s come ≤ f → innerN s t f come out = some (come', out') → OrdI s come' out' ∧ hasN s come' t = false ∧ leftN s come' ≤ leftN s come ∧ (hasN s come t = true → leftN s come' < leftN s come)
 | 0, come, out, come', out', h, hf, he => by
   cases he
   have hh : hasN s come t = false := by
    cases e : hasN s come t with
    | false => rfl
    | true => have := left_pos e; omega
   exact ⟨h, hh, Nat.le_refl _, fun e => by rw [hh] at e; cases e⟩
 | f + 1, come, out, come', out', h, hf, he => by
   cases hh : hasN s come t with
   | false =>
     rw [inner_end hh] at he
     cases he
     exact ⟨h, hh, Nat.le_refl _, fun e => by cases e⟩
   | true =>
     cases hp : pickN s come t with
     | none => rw [inner_none hh hp] at he; cases he
     | some i =>
       rw [inner_go hh hp] at he
       obtain ⟨p1, -, p3, -⟩ := pickN_some hp
       have h1 := leftN_put p1 p3
       obtain ⟨h2, h3, h4, -⟩ := inner_inv f _ _ _ _ (h.put p1 p3) (by omega) he
       exact ⟨h2, h3, by omega, fun _ => by omega⟩
theorem outer_inv {s : Sft} (hs : SftOk s) : ∀ (f : Nat) (come : Nat → Bool) (out l : List Int), OrdI s come out → leftN s come ≤ f → outerN s f come out = some l → ∃ come', OrdI s come' l ∧ leftN s come' = 0
 | 0, come, out, l, h, hf, he => by
   cases he
   exact ⟨come, h, by omega⟩
 | f + 1, come, out, l, h, hf, he => by
   by_cases hst : stopsN s come = []
   · rw [outer_end hst] at he
     cases he
     exact ⟨come, h, (leftN_zero hs).2 hst⟩
   · cases hp : nextN s come with
     | none =>
       have e : outerN s (f + 1) come out = none := by
        show (if stopsN s come = [] then _ else _) = _
        rw [if_neg hst, hp]
       rw [e] at he; cases he
     | some t =>
       have e : outerN s (f + 1) come out = match innerN s t s.n come out with | .none => .none | some r => outerN s f r.1 r.2 := by
        show (if stopsN s come = [] then _ else _) = _
        rw [if_neg hst, hp]
        try rfl
       rw [e] at he
       cases hi : innerN s t s.n come out with
       | none => rw [hi] at he; cases he
       | some r =>
         rw [hi] at he
         obtain ⟨h1, -, -, h4⟩ := inner_inv s.n come out r.1 r.2 h (leftN_le s come) hi
         have := h4 (nextN_some hp).1
         exact outer_inv hs f r.1 r.2 l h1 (by omega) he
structure OrdF (s : Sft) (l : List Int) : Prop where
 ok : okL s l
 mem : ∀ i, i < s.n → ((i : Int) ∈ l ↔ movedN s i = true)
 nd : l.Nodup
theorem ordE_has {s : Sft} (h : (ordE s).2 = 0) : sftE s = 0 ∧ outerN s s.n (fun _ => false) [] = some (ordE s).1 := by
 unfold ordE at h ⊢
 by_cases e : sftE s = 0
 · rw [if_neg (by simpa using e)] at h ⊢
   cases ho : outerN s s.n (fun _ => false) [] with
   | none => rw [ho] at h; cases h
   | some l => exact ⟨e, rfl⟩
 · rw [if_pos e] at h
   exact absurd h e
theorem ordE_F {s : Sft} (h : (ordE s).2 = 0) : OrdF s (ordE s).1 := by
 obtain ⟨h0, h1⟩ := ordE_has h
 obtain ⟨come', h2, h3⟩ := outer_inv (sftE_ok h0) s.n _ [] _ (OrdI.new s) (leftN_le s _) h1
 refine ⟨h2.ok, fun i hi => ?_, h2.nd⟩
 rw [h2.mem i hi]
 refine ⟨h2.mv i hi, fun hm => ?_⟩
 unfold leftN at h3
 rw [List.countP_eq_zero] at h3
 have := h3 i (List.mem_range.2 hi)
 cases hc : come' i with
 | true => rfl
 | false => exact absurd (waitN_iff.2 ⟨hm, hc⟩) this
theorem sort_range {L : List Int} {N : Nat} {p : Nat → Bool} (hn : L.Nodup) (hm : ∀ x, x ∈ L ↔ ∃ k : Nat, k < N ∧ x = (k : Int) ∧ p k = true) : sortZ L = ((List.range N).filter p).map fun k : Nat => (k : Int) := by
 have tr : ∀ a b c : Int, decide (a ≤ b) = true → decide (b ≤ c) = true → decide (a ≤ c) = true := fun a b c h1 h2 => by simp only [decide_eq_true_eq] at *; omega
 have tt : ∀ a b : Int, (decide (a ≤ b) || decide (b ≤ a)) = true := fun a b => by simp only [Bool.or_eq_true, decide_eq_true_eq]; omega
 have hR : (((List.range N).filter p).map fun k : Nat => (k : Int)).Nodup := by
  rw [List.Nodup, List.pairwise_map]
  exact (List.nodup_range.filter p).imp fun h e => h (by omega)
 refine List.Perm.eq_of_pairwise (le := fun a b => decide (a ≤ b) = true) (fun a b _ _ h1 h2 => ?_) (List.pairwise_mergeSort tr tt L) ?_ ?_
 · simp only [decide_eq_true_eq] at h1 h2; omega
 · rw [List.pairwise_map]
   exact (List.pairwise_lt_range.filter p).imp fun h => by simp only [decide_eq_true_eq]; omega
 · refine (List.mergeSort_perm L _).trans ((List.perm_ext_iff_of_nodup hn hR).2 fun x => ?_)
   rw [hm, List.mem_map]
   constructor
   · rintro ⟨k, h1, rfl, h2⟩
     exact ⟨k, List.mem_filter.2 ⟨List.mem_range.2 h1, h2⟩, rfl⟩
   · rintro ⟨k, h1, rfl⟩
     obtain ⟨h2, h3⟩ := List.mem_filter.1 h1
     exact ⟨k, List.mem_range.1 h2, rfl, h3⟩
theorem ordF_sorted {s : Sft} {l : List Int} (h : OrdF s l) : sortZ l = (movedL s).map fun k : Nat => (k : Int) := by
 unfold movedL
 refine sort_range h.nd fun x => ⟨fun hx => ?_, ?_⟩
 · obtain ⟨i, rfl, hi⟩ := h.ok x hx
   exact ⟨i, hi, rfl, (h.mem i hi).1 hx⟩
 · rintro ⟨k, hk, rfl, hp⟩
   exact (h.mem k hk).2 hp
def heldC (s : Sft) (l : List Int) (t : Nat) : List Int :=
 (if t < s.n ∧ s.to_.getD t 0 = (t : Int) ∧ movedN s t = false then [(t : Int)] else []) ++ l.filter fun x => decide (s.to_.getD x.toNat 0 = (t : Int))
def heldN (s : Sft) (l : List Int) (k : Nat) : List (Nat × List Int) := ((List.range k).filter fun t => decide (heldC s l t ≠ [])).map fun t => (t, heldC s l t)
end Go.Proofs.YtflpikickbellaaGreat
namespace Go.Proofs.YtflpikickbellaaGreat
open Go.RowKit Go.Shelf Go.Sort
set_option maxRecDepth 100000
theorem waits_put {s : Sft} {come : Nat → Bool} {i : Nat} {t : Int} (h : offN s i = t) : waitsN s (putN come i) = upd (waitsN s come) t ((waitsN s come t).filter fun x => !(x == (i : Int))) := by
 funext u
 have e : ∀ u, waitsN s (putN come i) u = (waitsN s come u).filter fun x => !(x == (i : Int)) := fun u => by
  unfold waitsN
  rw [List.filter_map, List.filter_filter]
  congr 1
  apply List.filter_congr
  intro j _
  unfold atN
  rw [waitN_put]
  simp only [Function.comp]
  by_cases hj : j = i
  · subst hj; simp
  · have h1 : decide (j = i) = false := decide_eq_false hj
    have h2 : ((j : Int) == (i : Int)) = false := beq_eq_false_iff_ne.2 (by omega)
    rw [h1, h2]; simp
 by_cases hu : u = t
 · subst hu; rw [upd_same]; exact e u
 · rw [upd_other _ _ hu, e u, List.filter_eq_self]
   intro x hx
   unfold waitsN at hx
   obtain ⟨j, hj, rfl⟩ := List.mem_map.1 hx
   have h1 := (List.mem_filter.1 hj).2
   unfold atN at h1
   rw [Bool.and_eq_true, decide_eq_true_eq] at h1
   have : ((j : Int) == (i : Int)) = false := beq_eq_false_iff_ne.2 fun e => hu (by rw [← h1.1, ← h, show j = i by omega])
   rw [this]; rfl
theorem waits_none {s : Sft} {come : Nat → Bool} {t : Int} : waitsN s come t = [] ↔ hasN s come t = false := by
 rw [← Bool.not_eq_true, hasN_iff]
 constructor
 · rintro h ⟨i, h1, h2, h3⟩
   have := waitsN_mem.2 ⟨h1, h2, h3⟩
   rw [h] at this; cases this
 · intro h
   apply List.eq_nil_iff_forall_not_mem.2
   intro x hx
   have hx2 := hx
   unfold waitsN at hx2
   obtain ⟨i, -, rfl⟩ := List.mem_map.1 hx2
   obtain ⟨h1, h2, h3⟩ := waitsN_mem.1 hx
   exact h ⟨i, h1, h2, h3⟩
theorem waits_sorted (s : Sft) (come : Nat → Bool) (t : Int) : sortZ (waitsN s come t) = waitsN s come t := by
 unfold waitsN
 refine sort_range (N := s.n) (p := atN s come t) ?_ fun x => ⟨fun hx => ?_, ?_⟩
 · rw [List.Nodup, List.pairwise_map]
   exact (List.nodup_range.filter _).imp fun h e => h (by omega)
 · obtain ⟨k, hk, rfl⟩ := List.mem_map.1 hx
   obtain ⟨h1, h2⟩ := List.mem_filter.1 hk
   exact ⟨k, List.mem_range.1 h1, rfl, h2⟩
 · rintro ⟨k, h1, rfl, h2⟩
   exact List.mem_map.2 ⟨k, List.mem_filter.2 ⟨List.mem_range.2 h1, h2⟩, rfl⟩
theorem pick_find (s : Sft) (come : Nat → Bool) (t : Int) : (waitsN s come t).find? (fun x => freeN s come t x.toNat) = (pickN s come t).map fun i : Nat => (i : Int) := by
 unfold waitsN pickN
 rw [List.find?_map, List.find?_filter]
 congr 1
 refine congrArg (fun f => List.find? f (List.range s.n)) (funext fun i => ?_)
 rw [Bool.eq_iff_iff]
 simp
theorem stops_sorted {s : Sft} {come : Nat → Bool} {xs : List Int} (hn : xs.Nodup) (hm : ∀ t, t ∈ xs ↔ -8 ≤ t ∧ t ≤ 8 ∧ hasN s come t = true) : sortZ xs = stopsN s come := by
 have tr : ∀ a b c : Int, decide (a ≤ b) = true → decide (b ≤ c) = true → decide (a ≤ c) = true := fun a b c h1 h2 => by simp only [decide_eq_true_eq] at *; omega
 have tt : ∀ a b : Int, (decide (a ≤ b) || decide (b ≤ a)) = true := fun a b => by simp only [Bool.or_eq_true, decide_eq_true_eq]; omega
 have hs : (stopsN s come).Pairwise (fun a b => a < b) := by
  unfold stopsN stops17
  refine List.Pairwise.filter _ ?_
  rw [List.pairwise_map]
  exact List.pairwise_lt_range.imp fun h => by omega
 refine List.Perm.eq_of_pairwise (le := fun a b => decide (a ≤ b) = true) (fun a b _ _ h1 h2 => ?_) (List.pairwise_mergeSort tr tt xs) (hs.imp fun h => by simp only [decide_eq_true_eq]; omega) ?_
 · simp only [decide_eq_true_eq] at h1 h2; omega
 · refine (List.mergeSort_perm xs _).trans ((List.perm_ext_iff_of_nodup hn (hs.imp fun h e => by omega)).2 fun x => ?_)
   rw [hm]
   unfold stopsN
   rw [List.mem_filter, mem_stops]
   exact ⟨fun h => ⟨⟨h.1, h.2.1⟩, h.2.2⟩, fun h => ⟨h.1.1, h.1.2, h.2⟩⟩
theorem next_find (s : Sft) (come : Nat → Bool) : (stopsN s come).find? (readyN s come) = nextN s come := by
 unfold stopsN nextN
 rw [List.find?_filter]
 refine congrArg (fun f => List.find? f stops17) (funext fun i => ?_)
 rw [Bool.eq_iff_iff]
 simp
structure PoA (W0 : World) (wb mb : Nat) (A F : Option Addr) (c fc : Nat) (s : Sft) (come : Nat → Bool) (out : List Int) (v : Value) (bx : List (Nat × Value)) (n : Nat) (G : Int → Option Value) (W : World) : Prop where
 c0 : W.cell? ⟨wb, 0, none⟩ = some (.slice A s.to_.length c)
 c1 : W.cell? ⟨wb, 1, none⟩ = some (.slice F s.first.length fc)
 c2 : W.cell? ⟨wb, 2, none⟩ = some (.map (some mb))
 lo : Below W0.heap.size W0 W
 mp : MpR W W0.heap.size mb n G (waitsN s come)
 own : ownI W W0.heap.size v out
 aw : ∀ t, (vRow G t).ownBlock ≠ some wb
 av : ∀ t k, v.ownBlock = some k → (vRow G t).ownBlock ≠ some k
 vw : v.ownBlock ≠ some wb
 vm : v.ownBlock ≠ some mb
 mw : mb ≠ wb
 box : ∀ p ∈ bx, W.cell? ⟨p.1, 0, none⟩ = some p.2 ∧ (∀ t, (vRow G t).ownBlock ≠ some p.1) ∧ v.ownBlock ≠ some p.1 ∧ mb ≠ p.1
section
variable {W0 W : World} {wb mb : Nat} {A F : Option Addr} {c fc : Nat} {s : Sft} {come : Nat → Bool} {out : List Int} {v : Value} {bx : List (Nat × Value)} {n : Nat} {G : Int → Option Value}
theorem PoA.to (h : PoA W0 wb mb A F c fc s come out v bx n G W) {W' : World} (hb : Below W.heap.size W W') : PoA W0 wb mb A F c fc s come out v bx n G W' :=
 ⟨(bcell hb (lt_of_cell h.c0) _).trans h.c0, (bcell hb (lt_of_cell h.c1) _).trans h.c1, (bcell hb (lt_of_cell h.c2) _).trans h.c2, h.lo.trans (hb.mono h.lo.size), h.mp.to hb, own_below h.own hb (Nat.le_refl _), h.aw, h.av, h.vw, h.vm, h.mw,
  fun p hp => by
   obtain ⟨h1, h2⟩ := h.box p hp
   exact ⟨(bcell hb (lt_of_cell h1) _).trans h1, h2⟩⟩
theorem PoA.sub (h : PoA W0 wb mb A F c fc s come out v bx n G W) {bx' : List (Nat × Value)} (hs : ∀ p ∈ bx', p ∈ bx) : PoA W0 wb mb A F c fc s come out v bx' n G W :=
 ⟨h.c0, h.c1, h.c2, h.lo, h.mp, h.own, h.aw, h.av, h.vw, h.vm, h.mw, fun p hp => h.box p (hs p hp)⟩
theorem PoA.boxed (h : PoA W0 wb mb A F c fc s come out v bx n G W) (x : Value) (T : TypeId) : PoA W0 wb mb A F c fc s come out v ((W.heap.size, x) :: bx) n G (W.alloc (.cells #[x] T)) := by
 have h' := h.to (al_t W (.cells #[x] T))
 refine ⟨h'.c0, h'.c1, h'.c2, h'.lo, h'.mp, h'.own, h'.aw, h'.av, h'.vw, h'.vm, h'.mw, fun p hp => ?_⟩
 rcases List.mem_cons.1 hp with rfl | hp
 · refine ⟨cell_new rfl rfl rfl, fun t e => ?_, fun e => ?_, fun e => ?_⟩
   · have := (h.mp.lt t _ e).2; omega
   · have := (World.ownsRow.lt h.own _ e).2; omega
   · have := h.mp.mv.lt; omega
 · exact h'.box p hp
theorem PoA.wk (h : PoA W0 wb mb A F c fc s come out v bx n G W) (hs : SfAt A F s W0) : WkBx wb A F c fc s mb W := ⟨h.c0, h.c1, h.c2, hs.to h.lo⟩
theorem PoA.wt (h : PoA W0 wb mb A F c fc s come out v bx n G W) : WtA mb s come W := ⟨n, G, h.mp.mv, fun t => h.mp.read t⟩
theorem PoA.grow (h : PoA W0 wb mb A F c fc s come out v bx n G W) {W' : World} {v' : Value} {out' : List Int} (hg : W.grownBy W' v.ownBlock) (ho : ownI W' W0.heap.size v' out') (hn : ∀ k, v'.ownBlock = some k → v.ownBlock = some k ∨ W.heap.size ≤ k) :
 PoA W0 wb mb A F c fc s come out' v' bx n G W' := by
 have kp : ∀ {b o : Nat} {u : Value}, W.cell? ⟨b, o, none⟩ = some u → v.ownBlock ≠ some b → W'.cell? ⟨b, o, none⟩ = some u := fun h1 h2 => hg.cell h1 (fun e => h2 e.symm)
 have hnew : ∀ b, v.ownBlock ≠ some b → b < W.heap.size → v'.ownBlock ≠ some b := fun b h1 h2 e => by
  rcases hn b e with h3 | h3
  · exact h1 h3
  · omega
 refine ⟨kp h.c0 h.vw, kp h.c1 h.vw, kp h.c2 h.vw, h.lo.grown hg h.lo.size (fun k e => (World.ownsRow.lt h.own k e).1), h.mp.kept hg (fun e => h.vm e.symm) (fun t k e e2 => h.av t k e2 e), ho, h.aw, fun t k hk e => ?_, hnew _ h.vw (lt_of_cell h.c0), hnew _ h.vm h.mp.mv.lt, h.mw, fun p hp => ?_⟩
 · rcases hn k hk with h3 | h3
   · exact h.av t k h3 e
   · have := (h.mp.lt t k e).2; omega
 · obtain ⟨h1, h2, h3, h4⟩ := h.box p hp
   exact ⟨kp h1 h3, h2, hnew _ h3 (lt_of_cell h1), h4⟩
theorem PoA.push {a : Option Addr} {k : Nat} (h : PoA W0 wb mb A F c fc s come out (.slice a out.length k) bx n G W) (hl : out.length ≤ 100000) (x : Int) :
 ∃ A' k' w', (Builtin.append_ #[22, 22] 22 #[.slice a out.length k, .slice (some ⟨W.heap.size, 0, none⟩) 1 1]).run Tryz.prog (W.alloc (.cells #[.int .i64 x] 3)) = .ok (.slice A' (out.length + 1) k') w' ∧ PoA W0 wb mb A F c fc s come (out ++ [x]) (.slice A' (out.length + 1) k') bx n G w' := by
 obtain ⟨ii, hii, hii0, hii1, hii2⟩ := info_parts info_int'
 have h' := h.to (al_t W (.cells #[.int .i64 x] 3))
 have hsz := h.lo.size
 obtain ⟨A', c', w', hr, ho, hg, hn⟩ := run_app_any Tryz.underlying22 hii hii0 hii1 hii2 rfl (by decide) h'.own (some ⟨W.heap.size, 0, none⟩) 1 1 [.int .i64 x] rfl (fun e => by cases e) (fun ad e => by cases e; exact newsT W _ _ _ rfl) (by intro u hu; rw [List.mem_singleton.1 hu]; rfl) (by unfold maxLen; omega) (by omega) (Nat.le_trans hsz (al_t W _).size)
 refine ⟨A', c', w', hr, h'.grow hg ?_ hn⟩
 unfold ownI
 rw [List.length_append, List.length_singleton, intV_snoc]
 exact ho
theorem PoA.gone (h : PoA W0 wb mb A F c fc s come out v bx n G W) {t : Int} (ht : wfK t) (he : waitsN s come t = []) (ty : TypeId) :
 ∃ w', (Builtin.delete_ #[79, 3] ty #[.map (some mb), .int .i64 t]).run Tryz.prog W = .ok (.tuple #[]) w' ∧ PoA W0 wb mb A F c fc s come out v bx n (upd G t none) w' := by
 obtain ⟨w', hr, hm, hg⟩ := h.mp.drop ht ty
 have kp : ∀ {b o : Nat} {u : Value}, W.cell? ⟨b, o, none⟩ = some u → mb ≠ b → w'.cell? ⟨b, o, none⟩ = some u := fun h1 h2 => hg.cell h1 (fun e => h2 (Option.some.inj e).symm)
 have hb : ∀ u k, (vRow (upd G t none) u).ownBlock = some k → (vRow G u).ownBlock = some k := fun u k e => by
  by_cases hu : u = t
  · subst hu; rw [vRow_gone] at e; cases e
  · rwa [vRow_other _ _ hu] at e
 refine ⟨w', hr, kp h.c0 h.mw, kp h.c1 h.mw, kp h.c2 h.mw, h.lo.grown hg h.lo.size (fun k e => by cases e; exact h.mp.lo), ?_, h.own.kept hg (Or.inr h.vm), fun u e => h.aw u (hb u _ e), fun u k hk e => h.av u k hk (hb u k e), h.vw, h.vm, h.mw, fun p hp => ?_⟩
 · refine hm.ext fun u => ?_
   by_cases hu : u = t
   · subst hu; rw [upd_same, he]
   · rw [upd_other _ _ hu]
 · obtain ⟨h1, h2, h3, h4⟩ := h.box p hp
   exact ⟨kp h1 h4, fun u e => h2 u (hb u _ e), h3, h4⟩
set_option maxHeartbeats 1000000 in
theorem PoA.del (h : PoA W0 wb mb A F c fc s come out v bx n G W) {t : Int} {i nb : Nat} (ho : offN s i = t) (ht : wfK t) (hbx : (nb, .int .i64 (i : Int)) ∈ bx) (hs : s.n ≤ 1000) (hn : n ≤ 1000) {a : Option Addr} {k : Nat} (hv : vRow G t = .slice a (waitsN s come t).length k) :
 Calls Tryz.prog 55 #[.slice a (waitsN s come t).length k, .func (.func 56) #[] #[.pointer (some ⟨nb, 0, none⟩)]] W fun e w2 =>
  ∃ A' n' k', e = .returned (.slice A' n' k') ∧ (∀ p ∈ bx, w2.cell? ⟨p.1, 0, none⟩ = some p.2) ∧ w2.cell? ⟨wb, 2, none⟩ = some (.map (some mb)) ∧
    ∀ W3, Below w2.heap.size w2 W3 → ∃ w4, (Instr.mapUpdate 79 (.map (some mb)) (.int .i64 t) (.slice A' n' k')).run Tryz.prog W3 = .ok () w4 ∧ PoA W0 wb mb A F c fc s (putN come i) out v bx (n + 1) (upd G t (some (.slice A' n' k'))) w4 := by
 obtain ⟨b1, b2, -, -⟩ := h.box _ hbx
 have hrow := h.mp.row t
 rw [hv] at hrow
 have hwl := waitsN_len s come t
 have hne := b2 t
 rw [hv] at hne
 refine (delF_any 56 #[.pointer (some ⟨nb, 0, none⟩)] (enters_of Tryz.func56 (by kernel_rfl) rfl) (fun x => x == (i : Int)) nb (.int .i64 (i : Int)) W0.heap.size k a (waitsN s come t) (by omega) W hrow hne b1 (fun x W' hc => (pdel1_any x (i : Int) nb W' hc).mono fun e w2 h => ⟨h.1, h.2.symm⟩)).mono ?_
 rintro e w2 ⟨v', rfl, ho', hg, hnb⟩
 obtain ⟨A', k', rfl, -⟩ := own_slice ho'
 have hg' : W.grownBy w2 (vRow G t).ownBlock := by rw [hv]; exact hg
 have kp : ∀ {b o : Nat} {u : Value}, W.cell? ⟨b, o, none⟩ = some u → (vRow G t).ownBlock ≠ some b → w2.cell? ⟨b, o, none⟩ = some u := fun h1 h2 => hg'.cell h1 (fun e => h2 e.symm)
 have hsame : ∀ j, (Value.slice A' ((waitsN s come t).filter fun x => !(x == (i : Int))).length k').ownBlock = some j → (vRow G t).ownBlock = some j := fun j e => by rw [hv]; exact hnb j e
 have hT := h.mp.turn (t := t) (v := .slice A' ((waitsN s come t).filter fun x => !(x == (i : Int))).length k') (l := (waitsN s come t).filter fun x => !(x == (i : Int))) hg' ho' (fun j e => Or.inl (hsame j e))
 have hlo2 : Below W0.heap.size W0 w2 := h.lo.grown hg' h.lo.size (fun j e => (h.mp.lt t j e).1)
 have hown2 : ownI w2 W0.heap.size v out := World.ownsRow.kept h.own hg' (by
  cases e : v.ownBlock with
  | none => exact Or.inl rfl
  | some j => exact Or.inr fun e2 => h.av t j e e2.symm)
 refine ⟨A', _, k', rfl, fun p hp => kp (h.box p hp).1 ((h.box p hp).2.1 t), kp h.c2 (h.aw t), fun W3 hb3 => ?_⟩
 obtain ⟨w4, h4, hm4, hg4⟩ := (hT.to hb3).put (by unfold maxLen; omega) ht
 have kp4 : ∀ {b o : Nat} {u : Value}, W.cell? ⟨b, o, none⟩ = some u → (vRow G t).ownBlock ≠ some b → mb ≠ b → w4.cell? ⟨b, o, none⟩ = some u := fun h1 h2 h3 =>
  hg4.cell ((bcell hb3 (lt_of_cell (kp h1 h2)) _).trans (kp h1 h2)) (fun e => h3 (Option.some.inj e).symm)
 have hrowb : ∀ u j, (vRow (upd G t (some (.slice A' ((waitsN s come t).filter fun x => !(x == (i : Int))).length k'))) u).ownBlock = some j → (vRow G u).ownBlock = some j := fun u j e => by
  by_cases hu : u = t
  · subst hu; rw [vRow_same] at e; exact hsame j e
  · rwa [vRow_other _ _ hu] at e
 refine ⟨w4, h4, kp4 h.c0 (h.aw t) h.mw, kp4 h.c1 (h.aw t) h.mw, kp4 h.c2 (h.aw t) h.mw, (hlo2.trans (hb3.mono hlo2.size)).grown hg4 (Nat.le_trans hlo2.size hb3.size) (fun j e => by cases e; exact h.mp.lo), ?_, (own_below hown2 hb3 (Nat.le_refl _)).kept hg4 (Or.inr h.vm), fun u e => h.aw u (hrowb u _ e), fun u j hj e => h.av u j hj (hrowb u j e), h.vw, h.vm, h.mw, fun p hp => ?_⟩
 · rw [waits_put ho]; exact hm4
 · obtain ⟨h1, h2, h3, h5⟩ := h.box p hp
   exact ⟨kp4 h1 (h2 t) h5, fun u e => h2 u (hrowb u _ e), h3, h5⟩
end
theorem PoA.new {w w' : World} {A F : Option Addr} {c fc : Nat} {s : Sft} {mb n : Nat} {G : Int → Option Value} (hm : MpR w' w.heap.size mb n G (waitsN s fun _ => false)) (hb : Below w.heap.size w w') :
 PoA w w'.heap.size mb A F c fc s (fun _ => false) [] (.slice none 0 0) [] n G (w'.alloc (wkB A F c fc s mb)) := by
 have h1 := al_t w' (wkB A F c fc s mb)
 refine ⟨cell_new rfl rfl rfl, cell_new rfl rfl rfl, cell_new rfl rfl rfl, hb.trans (h1.mono hb.size), hm.to h1, World.ownsRow_nil _ _ _ _, fun t e => ?_, (fun t k e => by cases e), (fun e => by cases e), (fun e => by cases e), ?_, fun p hp => by cases hp⟩
 · have := (hm.lt t _ e).2; omega
 · have := hm.mv.lt; omega
def BgPost (w : World) (A F : Option Addr) (c fc : Nat) (s : Sft) (e : Ending) (w' : World) : Prop :=
 ∃ (mb n : Nat) (G : Int → Option Value), e = .returned (wkV A F c fc s mb) ∧ n ≤ s.n ∧ MpR w' w.heap.size mb n G (waitsN s fun _ => false) ∧ (∀ t, (G t).isSome = decide (waitsN s (fun _ => false) t ≠ [])) ∧ Below w.heap.size w w'
theorem bg_start (w : World) (A F : Option Addr) (c fc : Nat) (s : Sft) : ∃ n G, BgM w (w.heap.size + 1) (w.heap.size + 1 + 1 + 1) (w.heap.size + 1 + 1) A F c fc s 0 n G ((((w.alloc (.cells #[.slice A s.to_.length c, .slice F s.first.length fc] 25)).alloc (.cells #[.slice none 0 0, .slice none 0 0, .map none] 106)).alloc (.map #[] 0)).alloc (.cells #[.slice A s.to_.length c, .slice F s.first.length fc, .map (some (w.heap.size + 1 + 1))] 106)) := by
 obtain ⟨w1, h1⟩ : ∃ w1, w1 = w.alloc (.cells #[.slice A s.to_.length c, .slice F s.first.length fc] 25) := ⟨_, rfl⟩
 have z1 : w1.heap.size = w.heap.size + 1 := by rw [h1]; simp
 have b1 : Below w.heap.size w w1 := by rw [h1]; exact al_t _ _
 rw [← h1]
 obtain ⟨w2, h2⟩ : ∃ w2, w2 = w1.alloc (.cells #[.slice none 0 0, .slice none 0 0, .map none] 106) := ⟨_, rfl⟩
 have z2 : w2.heap.size = w.heap.size + 1 + 1 := by rw [h2]; simp [z1]
 have b2 : Below w.heap.size w w2 := by rw [h2]; exact al_s b1 _
 have q0 : w2.cell? ⟨w.heap.size + 1, 0, none⟩ = some (.slice none 0 0) := cell_new h2 z1.symm rfl
 have q1 : w2.cell? ⟨w.heap.size + 1, 1, none⟩ = some (.slice none 0 0) := cell_new h2 z1.symm rfl
 have q2 : w2.cell? ⟨w.heap.size + 1, 2, none⟩ = some (.map none) := cell_new h2 z1.symm rfl
 have qf : ∀ k, w2.frozen? ⟨w.heap.size + 1, k, none⟩ = false := fun k => by rw [h2]; exact thawed_new' _ _ _ k z1.symm
 rw [← h2]
 have hm := MpR.new w2 b2.size
 rw [z2] at hm
 have b3 : Below w2.heap.size w2 (w2.alloc (.map #[] 0)) := al_t _ _
 obtain ⟨w3, h3⟩ : ∃ w3, w3 = w2.alloc (.map #[] 0) := ⟨_, rfl⟩
 have z3 : w3.heap.size = w.heap.size + 1 + 1 + 1 := by rw [h3]; simp [z2]
 rw [← h3] at hm b3 ⊢
 have b4 := b3.trans ((al_t w3 (.cells #[.slice A s.to_.length c, .slice F s.first.length fc, .map (some (w.heap.size + 1 + 1))] 106)).mono b3.size)
 refine ⟨0, fun _ => none, cell_new rfl z3.symm rfl, cell_new rfl z3.symm rfl, cell_new rfl z3.symm rfl, (bcell b4 (lt_of_cell q0) _).trans q0, (bcell b4 (lt_of_cell q1) _).trans q1, (bcell b4 (lt_of_cell q2) _).trans q2, fun k => (Below.frozen b4 (p := ⟨w.heap.size + 1, k, none⟩) (by rw [z2]; exact Nat.lt_succ_self _)).trans (qf k), b2.trans (b4.mono b2.size), hm.to (al_t _ _), Nat.le_refl _, (fun t => by rw [bgC_zero]; rfl), (fun t e => by cases e), (fun t e => by cases e), by omega, by omega⟩
theorem drew_cell {W : World} {a : Addr} {v : Value} (h : W.cell? a = some v) : W.drew.cell? a = some v := h
theorem bg_end {w W : World} {rb wb mb : Nat} {A F : Option Addr} {c fc : Nat} {s : Sft} {i n : Nat} {G : Int → Option Value} (h : BgM w rb wb mb A F c fc s i n G W) (hi : i = s.n) (hr : w.heap.size ≤ rb) {x y z : Value} :
 BgPost w A F c fc s (.returned (wkV A F c fc s mb)) (((W.setCell ⟨rb, 0, none⟩ x).setCell ⟨rb, 1, none⟩ y).setCell ⟨rb, 2, none⟩ z) := by
 subst hi
 have hg := grown_trans (grown_trans (grown_setAt W rb 0 x) (grown_setAt _ rb 1 y)) (grown_setAt _ rb 2 z)
 refine ⟨mb, n, G, rfl, h.nn, h.mp.kept hg (fun e => h.mr (Option.some.inj e)) (fun t k e e2 => h.ar t (by rw [e, ← e2])), h.dom, h.bl.grown hg h.bl.size (fun k e => by cases e; exact hr)⟩
set_option maxHeartbeats 16000000 in
theorem pbegin_any (A F : Option Addr) (c fc : Nat) (s : Sft) (hs : SftOk s) (hf : s.first.length ≤ 4611686018427387904) (w : World) (h : SfAt A F s w) :
 Calls Tryz.prog 45 #[sftV A F c fc s] w fun e w' => BgPost w A F c fc s e w' := by
 have HSf := Lib.hid h
 have hn : s.to_.length ≤ 40 := hs.len
 have hmm := @run_makeMap Tryz.prog
 clear h
 go_enter Tryz.func45, Tryz.ntmps45
 go_upto_region 2 with fail
 have HF0 : Hid (∃ n G, BgM w (w.heap.size + 1) (w.heap.size + 1 + 1 + 1) (w.heap.size + 1 + 1) A F c fc s 0 n G ((((w.alloc (.cells #[.slice A s.to_.length c, .slice F s.first.length fc] 25)).alloc (.cells #[.slice none 0 0, .slice none 0 0, .map none] 106)).alloc (.map #[] 0)).alloc (.cells #[.slice A s.to_.length c, .slice F s.first.length fc, .map (some (w.heap.size + 1 + 1))] 106))) := bg_start w A F c fc s
 have HC0 : Hid (((((w.alloc (.cells #[.slice A s.to_.length c, .slice F s.first.length fc] 25)).alloc (.cells #[.slice none 0 0, .slice none 0 0, .map none] 106)).alloc (.map #[] 0)).alloc (.cells #[.slice A s.to_.length c, .slice F s.first.length fc, .map (some (w.heap.size + 1 + 1))] 106)).cell? ⟨w.heap.size, 0, none⟩ = some (.slice A s.to_.length c)) := cell_al (cell_al (cell_al (cell_new rfl rfl rfl) _) _) _
 refine abs_world (Q := fun W => Code.wp _ _ _ _ W) (F := fun W => (∃ n G, BgM w (w.heap.size + 1) (w.heap.size + 1 + 1 + 1) (w.heap.size + 1 + 1) A F c fc s 0 n G W) ∧ W.cell? ⟨w.heap.size, 0, none⟩ = some (.slice A s.to_.length c)) _ ⟨HF0.out, HC0.out⟩ ?_
 clear HF0 HC0
 obtain ⟨sb, hsb⟩ : ∃ sb, sb = w.heap.size := ⟨_, rfl⟩
 obtain ⟨rb, hrb⟩ : ∃ rb, rb = w.heap.size + 1 := ⟨_, rfl⟩
 obtain ⟨mb, hmb⟩ : ∃ mb, mb = w.heap.size + 1 + 1 := ⟨_, rfl⟩
 obtain ⟨wb, hwb⟩ : ∃ wb, wb = w.heap.size + 1 + 1 + 1 := ⟨_, rfl⟩
 rw [← hwb, ← hmb, ← hrb, ← hsb]
 have HRb : Hid (w.heap.size ≤ rb) := by show _ ≤ _; omega
 clear hwb hmb hrb
 rintro W1 ⟨⟨n0, G0, h0⟩, q0⟩
 have HX1 := Lib.hid h0
 clear h0 hmm
 clear hsb
 go_wp2
 clear q0
 go_loopw [11] (fun s11 wr => ∃ (i n : Nat) (G : Int → Option Value), i ≤ s.to_.length ∧ s11 = .int .i64 (i : Int) ∧ Hid (BgM w rb wb mb A F c fc s i n G wr)) (fun s11 _ => s.to_.length - (intOf s11).toNat)
 case atStart => exact ⟨0, n0, G0, Nat.zero_le _, rfl, HX1.out⟩
 case round =>
  obtain ⟨i, n, G, hi, rfl, HX⟩ := hrel
  clear HX1
  obtain ⟨W, hW⟩ : ∃ W : World, W = wr := ⟨_, rfl⟩
  rw [← hW] at HX ⊢
  clear hW
  have c0 := HX.out.c0
  have c1 := HX.out.c1
  have c2 := HX.out.c2
  by_cases hlt : i < s.to_.length
  case neg =>
   have r0 := HX.out.r0
   have r1 := HX.out.r1
   have r2 := HX.out.r2
   have rf := HX.out.rf
   have HE : Hid (∃ W', W' = ((W.setCell ⟨rb, 0, none⟩ (.slice A s.to_.length c)).setCell ⟨rb, 1, none⟩ (.slice F s.first.length fc)).setCell ⟨rb, 2, none⟩ (.map (some mb)) ∧ BgPost w A F c fc s (.returned (wkV A F c fc s mb)) W' ∧ W'.cell? ⟨rb, 0, none⟩ = some (.slice A s.to_.length c) ∧ W'.cell? ⟨rb, 1, none⟩ = some (.slice F s.first.length fc) ∧ W'.cell? ⟨rb, 2, none⟩ = some (.map (some mb))) :=
    ⟨_, rfl, bg_end HX.out (by have e : s.n = s.to_.length := rfl; omega) HRb.out, set_other (by omega) (set_other (by omega) (set_same r0)), set_other (by omega) (set_same (set_other (by omega) r1)), set_same (set_other (by omega) (set_other (by omega) r2))⟩
   clear HX
   go_wp2
   (try simp only [Exit.inBlock, Exit.then])
   obtain ⟨W', hW', hp, q0, q1, q2⟩ := HE.out
   rw [← hW']
   clear hW' r0 r1 r2 rf c0 c1 c2
   refine bodyPost_ret (v := wkV A F c fc s mb) (by simp [results, Tryz.results45, go_sem, q0, q1, q2]) rfl hp
  case pos =>
   have HM := Lib.hid (pmoved_any A F c fc s mb hs hf i hlt W (HSf.out.to HX.out.bl))
   cases hm : movedN s i with
   | false =>
     have HMv := Lib.hid hm
     rw [hm] at HM
     clear hm
     go_wp2_with ((go_at_call 90; refine HM.out.mono ?_; rintro e w1 ⟨rfl, hb1⟩))
     go_roundw
     case rel => exact ⟨i + 1, n, G, by omega, by go_num, (HX.out.skip HMv.out).to hb1⟩
     case measure => simp [intOf]; omega
   | true =>
     have HMv := Lib.hid hm
     rw [hm] at HM
     clear hm
     go_upto_region 6 with ((go_at_call 90; refine HM.out.mono ?_; rintro e w1 ⟨rfl, hb1⟩))
     have HX1 := Lib.hid (HX.out.to hb1)
     clear HM hb1 HX c0 c1 c2
     have c0 := HX1.out.c0
     have c1 := HX1.out.c1
     have c2 := HX1.out.c2
     obtain ⟨a, k, hv, -⟩ := HX1.out.mp.read (offN s i)
     have HV := Lib.hid hv
     have hor := (hs.to_ i hlt).2.2
     have HS : Hid (∀ W', Below w1.heap.size w1 W' → W'.cell? ⟨wb, 0, none⟩ = some (.slice A s.to_.length c) ∧ W'.cell? ⟨wb, 1, none⟩ = some (.slice F s.first.length fc) ∧ W'.cell? ⟨wb, 2, none⟩ = some (.map (some mb))) := fun W' hb => ⟨(HX1.out.to hb).c0, (HX1.out.to hb).c1, (HX1.out.to hb).c2⟩
     have HLk : Hid (∀ W', Below w1.heap.size w1 W' → (Instr.lookup 79 (.map (some mb)) (.int .i64 (offN s i)) false).run Tryz.prog W' = .ok (.slice a (bgC s i (offN s i)).length k) W') := fun W' hb => by rw [← hv]; exact (HX1.out.to hb).mp.look (wfK_small hor.1 hor.2)
     have HOff : Hid (∀ W', Below w1.heap.size w1 W' → Calls Tryz.prog 51 #[wkV A F c fc s mb, .int .i64 (i : Int)] W' fun e w' => e = .returned (.int .i64 (offN s i)) ∧ w' = W'.alloc (wkB A F c fc s mb)) := fun W' hb => poff_ex A F c fc s mb hs i hlt W' (HSf.out.to (HX1.out.to hb).bl)
     have HOff2 : Hid (∀ W', SfAt A F s W' → Calls Tryz.prog 51 #[wkV A F c fc s mb, .int .i64 (i : Int)] W' fun e w' => e = .returned (.int .i64 (offN s i)) ∧ w' = W'.alloc (wkB A F c fc s mb)) := fun W' hb => poff_ex A F c fc s mb hs i hlt W' hb
     have HSt := Lib.hid (fun (W' : World) (hb : Below w1.heap.size w1 W') (g : Nat) (hg : W'.cell? ⟨g, 0, none⟩ = some (.int .i64 (i : Int))) => (HX1.out.to hb).step HSf.out hs hlt HMv.out hv g hg)
     obtain ⟨L, hL⟩ : ∃ L, L = (bgC s i (offN s i)).length := ⟨_, rfl⟩
     obtain ⟨o, ho⟩ : ∃ o, o = offN s i := ⟨_, rfl⟩
     simp only [← hL] at HLk HSt
     simp only [← ho] at HLk HOff HOff2 HSt
     clear hv HV hor hL ho
     go_region_held3 (fun W' => W'.cell? ⟨wb, 0, none⟩ = some (.slice A s.to_.length c) ∧ W'.cell? ⟨wb, 1, none⟩ = some (.slice F s.first.length fc) ∧ W'.cell? ⟨wb, 2, none⟩ = some (.map (some mb)))
      (first | exact ⟨by assumption, by assumption, by assumption⟩ | exact HS.out _ (by (repeat (first | with_reducible exact Below.refl _ _ | (with_reducible refine Below.drew ?_) | (with_reducible refine al_s ?_ _)))) | fail)
      (first
        | (go_at_call 51; refine (HOff.out _ (by (repeat (first | with_reducible exact Below.refl _ _ | (with_reducible refine Below.drew ?_) | (with_reducible refine al_s ?_ _))))).mono ?_; rintro e w' ⟨rfl, rfl⟩)
        | (go_at_call 51; refine (HOff2.out _ (by assumption)).mono ?_; rintro e w' ⟨rfl, rfl⟩)
        | (rw [HLk.out]; rotate_left; (repeat (first | with_reducible exact Below.refl _ _ | (with_reducible refine Below.drew ?_) | (with_reducible refine al_s ?_ _))); go_simp)
        | (refine step_append_ex (by rfl) _ _ _ _ (by rfl) _ _ (by rfl) (by rfl) (HSt.out _ (by (repeat (first | with_reducible exact Below.refl _ _ | (with_reducible refine Below.drew ?_) | (with_reducible refine al_s ?_ _)))) _ (by refine drew_cell ?_; first | exact cell_new rfl (by simp) rfl | exact cell_al (cell_new rfl (by simp) rfl) _ | exact cell_al (cell_al (cell_new rfl (by simp) rfl) _) _)) ?_; rintro v2 w2 ⟨A2, k2, rfl, e0, e1, e2, hsf2, hP⟩; obtain ⟨p0, p1, p2, w4, he4, hq4⟩ := hP _ (Below.refl _ _); obtain ⟨p0', p1', p2', w5, he5, hq5⟩ := hP _ (al_t _ (wkB A F c fc s mb)); have q40 := hq4.c0; have q41 := hq4.c1; have q42 := hq4.c2; have q50 := hq5.c0; have q51 := hq5.c1; have q52 := hq5.c2; clear hP)
        | fail)
     all_goals
      go_wp2
      go_roundw
      case rel => exact ⟨i + 1, n + 1, _, by omega, by go_num, by assumption⟩
      case measure => simp [intOf]; omega
end Go.Proofs.YtflpikickbellaaGreat
