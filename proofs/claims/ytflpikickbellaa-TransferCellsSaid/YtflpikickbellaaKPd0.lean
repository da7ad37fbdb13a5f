/- Layer 32: the memory of the program's Order. -/
import Derived.Test.YtflpikickbellaaKG12
import Derived.Test.YtflpikickbellaaKDf
import Derived.Test.YtflpikickbellaaKKy
import Derived.Test.YtflpikickbellaaKRt5
import Derived.Test.YtflpikickbellaaKG11
namespace Go.Proofs.Ytflpikickbellaa
open Go.RowKit Go.Shelf Go.Sort
set_option maxRecDepth 100000

/-! Plain. -/
theorem waits_put {s : Sft} {come : Nat → Bool} {i : Nat} {t : Int} (h : offN s i = t) : waitsN s (putN come i) = upd (waitsN s come) t ((waitsN s come t).filter fun x => !(x == (i : Int))) := by
  funext u
  have e : ∀ u, waitsN s (putN come i) u = (waitsN s come u).filter fun x => !(x == (i : Int)) := fun u => by
    unfold waitsN
    rw [List.filter_map, List.filter_filter]
    congr 1
    apply List.filter_congr
    intro j _
    unfold atN
    rw [waitN_put]
    simp only [Function.comp]
    by_cases hj : j = i
    · subst hj; simp
    · have h1 : decide (j = i) = false := decide_eq_false hj
      have h2 : ((j : Int) == (i : Int)) = false := beq_eq_false_iff_ne.2 (by omega)
      rw [h1, h2]; simp
  by_cases hu : u = t
  · subst hu; rw [upd_same]; exact e u
  · rw [upd_other _ _ hu, e u, List.filter_eq_self]
    intro x hx
    unfold waitsN at hx
    obtain ⟨j, hj, rfl⟩ := List.mem_map.1 hx
    have h1 := (List.mem_filter.1 hj).2
    unfold atN at h1
    rw [Bool.and_eq_true, decide_eq_true_eq] at h1
    have : ((j : Int) == (i : Int)) = false := beq_eq_false_iff_ne.2 fun e => hu (by rw [← h1.1, ← h, show j = i by omega])
    rw [this]; rfl
theorem waits_none {s : Sft} {come : Nat → Bool} {t : Int} : waitsN s come t = [] ↔ hasN s come t = false := by
  rw [← Bool.not_eq_true, hasN_iff]
  constructor
  · rintro h ⟨i, h1, h2, h3⟩
    have := waitsN_mem.2 ⟨h1, h2, h3⟩
    rw [h] at this; cases this
  · intro h
    apply List.eq_nil_iff_forall_not_mem.2
    intro x hx
    have hx2 := hx
    unfold waitsN at hx2
    obtain ⟨i, -, rfl⟩ := List.mem_map.1 hx2
    obtain ⟨h1, h2, h3⟩ := waitsN_mem.1 hx
    exact h ⟨i, h1, h2, h3⟩
theorem waits_sorted (s : Sft) (come : Nat → Bool) (t : Int) : sortZ (waitsN s come t) = waitsN s come t := by
  unfold waitsN
  refine sort_range (N := s.n) (p := atN s come t) ?_ fun x => ⟨fun hx => ?_, ?_⟩
  · rw [List.Nodup, List.pairwise_map]
    exact (List.nodup_range.filter _).imp fun h e => h (by omega)
  · obtain ⟨k, hk, rfl⟩ := List.mem_map.1 hx
    obtain ⟨h1, h2⟩ := List.mem_filter.1 hk
    exact ⟨k, List.mem_range.1 h1, rfl, h2⟩
  · rintro ⟨k, h1, rfl, h2⟩
    exact List.mem_map.2 ⟨k, List.mem_filter.2 ⟨List.mem_range.2 h1, h2⟩, rfl⟩
theorem pick_find (s : Sft) (come : Nat → Bool) (t : Int) : (waitsN s come t).find? (fun x => freeN s come t x.toNat) = (pickN s come t).map fun i : Nat => (i : Int) := by
  unfold waitsN pickN
  rw [List.find?_map, List.find?_filter]
  congr 1
  refine congrArg (fun f => List.find? f (List.range s.n)) (funext fun i => ?_)
  rw [Bool.eq_iff_iff]
  simp
theorem stops_sorted {s : Sft} {come : Nat → Bool} {xs : List Int} (hn : xs.Nodup) (hm : ∀ t, t ∈ xs ↔ -8 ≤ t ∧ t ≤ 8 ∧ hasN s come t = true) : sortZ xs = stopsN s come := by
  have tr : ∀ a b c : Int, decide (a ≤ b) = true → decide (b ≤ c) = true → decide (a ≤ c) = true := fun a b c h1 h2 => by simp only [decide_eq_true_eq] at *; omega
  have tt : ∀ a b : Int, (decide (a ≤ b) || decide (b ≤ a)) = true := fun a b => by simp only [Bool.or_eq_true, decide_eq_true_eq]; omega
  have hs : (stopsN s come).Pairwise (fun a b => a < b) := by
    unfold stopsN stops17
    refine List.Pairwise.filter _ ?_
    rw [List.pairwise_map]
    exact List.pairwise_lt_range.imp fun h => by omega
  refine List.Perm.eq_of_pairwise (le := fun a b => decide (a ≤ b) = true) (fun a b _ _ h1 h2 => ?_) (List.pairwise_mergeSort tr tt xs) (hs.imp fun h => by simp only [decide_eq_true_eq]; omega) ?_
  · simp only [decide_eq_true_eq] at h1 h2; omega
  · refine (List.mergeSort_perm xs _).trans ((List.perm_ext_iff_of_nodup hn (hs.imp fun h e => by omega)).2 fun x => ?_)
    rw [hm]
    unfold stopsN
    rw [List.mem_filter, mem_stops]
    exact ⟨fun h => ⟨⟨h.1, h.2.1⟩, h.2.2⟩, fun h => ⟨h.1.1, h.1.2, h.2⟩⟩
theorem next_find (s : Sft) (come : Nat → Bool) : (stopsN s come).find? (readyN s come) = nextN s come := by
  unfold stopsN nextN
  rw [List.find?_filter]
  refine congrArg (fun f => List.find? f stops17) (funext fun i => ?_)
  rw [Bool.eq_iff_iff]
  simp
/-! The memory: the work's box, the map, the list, some boxes. -/
structure PoA (W0 : World) (wb mb : Nat) (A F : Option Addr) (c fc : Nat) (s : Sft) (come : Nat → Bool) (out : List Int) (v : Value) (bx : List (Nat × Value)) (n : Nat) (G : Int → Option Value) (W : World) : Prop where
  c0 : W.cell? ⟨wb, 0, none⟩ = some (.slice A s.to_.length c)
  c1 : W.cell? ⟨wb, 1, none⟩ = some (.slice F s.first.length fc)
  c2 : W.cell? ⟨wb, 2, none⟩ = some (.map (some mb))
  lo : Below W0.heap.size W0 W
  mp : MpR W W0.heap.size mb n G (waitsN s come)
  own : ownI W W0.heap.size v out
  aw : ∀ t, (vRow G t).ownBlock ≠ some wb
  av : ∀ t k, v.ownBlock = some k → (vRow G t).ownBlock ≠ some k
  vw : v.ownBlock ≠ some wb
  vm : v.ownBlock ≠ some mb
  mw : mb ≠ wb
  box : ∀ p ∈ bx, W.cell? ⟨p.1, 0, none⟩ = some p.2 ∧ (∀ t, (vRow G t).ownBlock ≠ some p.1) ∧ v.ownBlock ≠ some p.1 ∧ mb ≠ p.1
section
variable {W0 W : World} {wb mb : Nat} {A F : Option Addr} {c fc : Nat} {s : Sft} {come : Nat → Bool} {out : List Int} {v : Value} {bx : List (Nat × Value)} {n : Nat} {G : Int → Option Value}
theorem PoA.to (h : PoA W0 wb mb A F c fc s come out v bx n G W) {W' : World} (hb : Below W.heap.size W W') : PoA W0 wb mb A F c fc s come out v bx n G W' :=
  ⟨(bcell hb (lt_of_cell h.c0) _).trans h.c0, (bcell hb (lt_of_cell h.c1) _).trans h.c1, (bcell hb (lt_of_cell h.c2) _).trans h.c2, h.lo.trans (hb.mono h.lo.size), h.mp.to hb, own_below h.own hb (Nat.le_refl _), h.aw, h.av, h.vw, h.vm, h.mw,
   fun p hp => by
    obtain ⟨h1, h2⟩ := h.box p hp
    exact ⟨(bcell hb (lt_of_cell h1) _).trans h1, h2⟩⟩
theorem PoA.sub (h : PoA W0 wb mb A F c fc s come out v bx n G W) {bx' : List (Nat × Value)} (hs : ∀ p ∈ bx', p ∈ bx) : PoA W0 wb mb A F c fc s come out v bx' n G W :=
  ⟨h.c0, h.c1, h.c2, h.lo, h.mp, h.own, h.aw, h.av, h.vw, h.vm, h.mw, fun p hp => h.box p (hs p hp)⟩
theorem PoA.boxed (h : PoA W0 wb mb A F c fc s come out v bx n G W) (x : Value) (T : TypeId) : PoA W0 wb mb A F c fc s come out v ((W.heap.size, x) :: bx) n G (W.alloc (.cells #[x] T)) := by
  have h' := h.to (al_t W (.cells #[x] T))
  refine ⟨h'.c0, h'.c1, h'.c2, h'.lo, h'.mp, h'.own, h'.aw, h'.av, h'.vw, h'.vm, h'.mw, fun p hp => ?_⟩
  rcases List.mem_cons.1 hp with rfl | hp
  · refine ⟨cell_new rfl rfl rfl, fun t e => ?_, fun e => ?_, fun e => ?_⟩
    · have := (h.mp.lt t _ e).2; omega
    · have := (World.ownsRow.lt h.own _ e).2; omega
    · have := h.mp.mv.lt; omega
  · exact h'.box p hp
theorem PoA.wk (h : PoA W0 wb mb A F c fc s come out v bx n G W) (hs : SfAt A F s W0) : WkBx wb A F c fc s mb W := ⟨h.c0, h.c1, h.c2, hs.to h.lo⟩
theorem PoA.wt (h : PoA W0 wb mb A F c fc s come out v bx n G W) : WtA mb s come W := ⟨n, G, h.mp.mv, fun t => h.mp.read t⟩
/-- The list's row is turned. -/
theorem PoA.grow (h : PoA W0 wb mb A F c fc s come out v bx n G W) {W' : World} {v' : Value} {out' : List Int} (hg : W.grownBy W' v.ownBlock) (ho : ownI W' W0.heap.size v' out') (hn : ∀ k, v'.ownBlock = some k → v.ownBlock = some k ∨ W.heap.size ≤ k) :
    PoA W0 wb mb A F c fc s come out' v' bx n G W' := by
  have kp : ∀ {b o : Nat} {u : Value}, W.cell? ⟨b, o, none⟩ = some u → v.ownBlock ≠ some b → W'.cell? ⟨b, o, none⟩ = some u := fun h1 h2 => hg.cell h1 (fun e => h2 e.symm)
  have hnew : ∀ b, v.ownBlock ≠ some b → b < W.heap.size → v'.ownBlock ≠ some b := fun b h1 h2 e => by
    rcases hn b e with h3 | h3
    · exact h1 h3
    · omega
  refine ⟨kp h.c0 h.vw, kp h.c1 h.vw, kp h.c2 h.vw, h.lo.grown hg h.lo.size (fun k e => (World.ownsRow.lt h.own k e).1), h.mp.kept hg (fun e => h.vm e.symm) (fun t k e e2 => h.av t k e2 e), ho, h.aw, fun t k hk e => ?_, hnew _ h.vw (lt_of_cell h.c0), hnew _ h.vm h.mp.mv.lt, h.mw, fun p hp => ?_⟩
  · rcases hn k hk with h3 | h3
    · exact h.av t k h3 e
    · have := (h.mp.lt t k e).2; omega
  · obtain ⟨h1, h2, h3, h4⟩ := h.box p hp
    exact ⟨kp h1 h3, h2, hnew _ h3 (lt_of_cell h1), h4⟩
theorem PoA.push {a : Option Addr} {k : Nat} (h : PoA W0 wb mb A F c fc s come out (.slice a out.length k) bx n G W) (hl : out.length ≤ 100000) (x : Int) :
    ∃ A' k' w', (Builtin.append_ #[22, 22] 22 #[.slice a out.length k, .slice (some ⟨W.heap.size, 0, none⟩) 1 1]).run Try.prog (W.alloc (.cells #[.int .i64 x] 3)) = .ok (.slice A' (out.length + 1) k') w' ∧ PoA W0 wb mb A F c fc s come (out ++ [x]) (.slice A' (out.length + 1) k') bx n G w' := by
  obtain ⟨ii, hii, hii0, hii1, hii2⟩ := info_parts info_int'
  have h' := h.to (al_t W (.cells #[.int .i64 x] 3))
  have hsz := h.lo.size
  obtain ⟨A', c', w', hr, ho, hg, hn⟩ := run_app_any Try.underlying22 hii hii0 hii1 hii2 rfl (by decide) h'.own (some ⟨W.heap.size, 0, none⟩) 1 1 [.int .i64 x] rfl (fun e => by cases e) (fun ad e => by cases e; exact newsT W _ _ _ rfl) (by intro u hu; rw [List.mem_singleton.1 hu]; rfl) (by unfold maxLen; omega) (by omega) (Nat.le_trans hsz (al_t W _).size)
  refine ⟨A', c', w', hr, h'.grow hg ?_ hn⟩
  unfold ownI
  rw [List.length_append, List.length_singleton, intV_snoc]
  exact ho
/-- delete(w.waits, t). -/
theorem PoA.gone (h : PoA W0 wb mb A F c fc s come out v bx n G W) {t : Int} (ht : wfK t) (he : waitsN s come t = []) (ty : TypeId) :
    ∃ w', (Builtin.delete_ #[70, 3] ty #[.map (some mb), .int .i64 t]).run Try.prog W = .ok (.tuple #[]) w' ∧ PoA W0 wb mb A F c fc s come out v bx n (upd G t none) w' := by
  obtain ⟨w', hr, hm, hg⟩ := h.mp.drop ht ty
  have kp : ∀ {b o : Nat} {u : Value}, W.cell? ⟨b, o, none⟩ = some u → mb ≠ b → w'.cell? ⟨b, o, none⟩ = some u := fun h1 h2 => hg.cell h1 (fun e => h2 (Option.some.inj e).symm)
  have hb : ∀ u k, (vRow (upd G t none) u).ownBlock = some k → (vRow G u).ownBlock = some k := fun u k e => by
    by_cases hu : u = t
    · subst hu; rw [vRow_gone] at e; cases e
    · rwa [vRow_other _ _ hu] at e
  refine ⟨w', hr, kp h.c0 h.mw, kp h.c1 h.mw, kp h.c2 h.mw, h.lo.grown hg h.lo.size (fun k e => by cases e; exact h.mp.lo), ?_, h.own.kept hg (Or.inr h.vm), fun u e => h.aw u (hb u _ e), fun u k hk e => h.av u k hk (hb u k e), h.vw, h.vm, h.mw, fun p hp => ?_⟩
  · refine hm.ext fun u => ?_
    by_cases hu : u = t
    · subst hu; rw [upd_same, he]
    · rw [upd_other _ _ hu]
  · obtain ⟨h1, h2, h3, h4⟩ := h.box p hp
    exact ⟨kp h1 h4, fun u e => h2 u (hb u _ e), h3, h4⟩
set_option maxHeartbeats 1000000 in
/-- w.waits[t] = slices.DeleteFunc(w.waits[t], ..), in two steps. -/
theorem PoA.del (h : PoA W0 wb mb A F c fc s come out v bx n G W) {t : Int} {i nb : Nat} (ho : offN s i = t) (ht : wfK t) (hbx : (nb, .int .i64 (i : Int)) ∈ bx) (hs : s.n ≤ 1000) (hn : n ≤ 1000) {a : Option Addr} {k : Nat} (hv : vRow G t = .slice a (waitsN s come t).length k) :
    Calls Try.prog 39 #[.slice a (waitsN s come t).length k, .func (.func 40) #[] #[.pointer (some ⟨nb, 0, none⟩)]] W fun e w2 =>
      ∃ A' n' k', e = .returned (.slice A' n' k') ∧ (∀ p ∈ bx, w2.cell? ⟨p.1, 0, none⟩ = some p.2) ∧ w2.cell? ⟨wb, 2, none⟩ = some (.map (some mb)) ∧
        ∀ W3, Below w2.heap.size w2 W3 → ∃ w4, (Instr.mapUpdate 70 (.map (some mb)) (.int .i64 t) (.slice A' n' k')).run Try.prog W3 = .ok () w4 ∧ PoA W0 wb mb A F c fc s (putN come i) out v bx (n + 1) (upd G t (some (.slice A' n' k'))) w4 := by
  obtain ⟨b1, b2, -, -⟩ := h.box _ hbx
  have hrow := h.mp.row t
  rw [hv] at hrow
  have hwl := waitsN_len s come t
  have hne := b2 t
  rw [hv] at hne
  refine (delF_any 40 #[.pointer (some ⟨nb, 0, none⟩)] (enters_of Try.func40 (by kernel_rfl) rfl) (fun x => x == (i : Int)) nb (.int .i64 (i : Int)) W0.heap.size k a (waitsN s come t) (by omega) W hrow hne b1 (fun x W' hc => (pdel1_any x (i : Int) nb W' hc).mono fun e w2 h => ⟨h.1, h.2.symm⟩)).mono ?_
  rintro e w2 ⟨v', rfl, ho', hg, hnb⟩
  obtain ⟨A', k', rfl, -⟩ := own_slice ho'
  have hg' : W.grownBy w2 (vRow G t).ownBlock := by rw [hv]; exact hg
  have kp : ∀ {b o : Nat} {u : Value}, W.cell? ⟨b, o, none⟩ = some u → (vRow G t).ownBlock ≠ some b → w2.cell? ⟨b, o, none⟩ = some u := fun h1 h2 => hg'.cell h1 (fun e => h2 e.symm)
  have hsame : ∀ j, (Value.slice A' ((waitsN s come t).filter fun x => !(x == (i : Int))).length k').ownBlock = some j → (vRow G t).ownBlock = some j := fun j e => by rw [hv]; exact hnb j e
  have hT := h.mp.turn (t := t) (v := .slice A' ((waitsN s come t).filter fun x => !(x == (i : Int))).length k') (l := (waitsN s come t).filter fun x => !(x == (i : Int))) hg' ho' (fun j e => Or.inl (hsame j e))
  have hlo2 : Below W0.heap.size W0 w2 := h.lo.grown hg' h.lo.size (fun j e => (h.mp.lt t j e).1)
  have hown2 : ownI w2 W0.heap.size v out := World.ownsRow.kept h.own hg' (by
    cases e : v.ownBlock with
    | none => exact Or.inl rfl
    | some j => exact Or.inr fun e2 => h.av t j e e2.symm)
  refine ⟨A', _, k', rfl, fun p hp => kp (h.box p hp).1 ((h.box p hp).2.1 t), kp h.c2 (h.aw t), fun W3 hb3 => ?_⟩
  obtain ⟨w4, h4, hm4, hg4⟩ := (hT.to hb3).put (by unfold maxLen; omega) ht
  have kp4 : ∀ {b o : Nat} {u : Value}, W.cell? ⟨b, o, none⟩ = some u → (vRow G t).ownBlock ≠ some b → mb ≠ b → w4.cell? ⟨b, o, none⟩ = some u := fun h1 h2 h3 =>
    hg4.cell ((bcell hb3 (lt_of_cell (kp h1 h2)) _).trans (kp h1 h2)) (fun e => h3 (Option.some.inj e).symm)
  have hrowb : ∀ u j, (vRow (upd G t (some (.slice A' ((waitsN s come t).filter fun x => !(x == (i : Int))).length k'))) u).ownBlock = some j → (vRow G u).ownBlock = some j := fun u j e => by
    by_cases hu : u = t
    · subst hu; rw [vRow_same] at e; exact hsame j e
    · rwa [vRow_other _ _ hu] at e
  refine ⟨w4, h4, kp4 h.c0 (h.aw t) h.mw, kp4 h.c1 (h.aw t) h.mw, kp4 h.c2 (h.aw t) h.mw, (hlo2.trans (hb3.mono hlo2.size)).grown hg4 (Nat.le_trans hlo2.size hb3.size) (fun j e => by cases e; exact h.mp.lo), ?_, (own_below hown2 hb3 (Nat.le_refl _)).kept hg4 (Or.inr h.vm), fun u e => h.aw u (hrowb u _ e), fun u j hj e => h.av u j hj (hrowb u j e), h.vw, h.vm, h.mw, fun p hp => ?_⟩
  · rw [waits_put ho]; exact hm4
  · obtain ⟨h1, h2, h3, h5⟩ := h.box p hp
    exact ⟨kp4 h1 (h2 t) h5, fun u e => h2 u (hrowb u _ e), h3, h5⟩
end
/-- begin's world, as Order goes on. -/
theorem PoA.new {w w' : World} {A F : Option Addr} {c fc : Nat} {s : Sft} {mb n : Nat} {G : Int → Option Value} (hm : MpR w' w.heap.size mb n G (waitsN s fun _ => false)) (hb : Below w.heap.size w w') :
    PoA w w'.heap.size mb A F c fc s (fun _ => false) [] (.slice none 0 0) [] n G (w'.alloc (wkB A F c fc s mb)) := by
  have h1 := al_t w' (wkB A F c fc s mb)
  refine ⟨cell_new rfl rfl rfl, cell_new rfl rfl rfl, cell_new rfl rfl rfl, hb.trans (h1.mono hb.size), hm.to h1, World.ownsRow_nil _ _ _ _, fun t e => ?_, (fun t k e => by cases e), (fun e => by cases e), (fun e => by cases e), ?_, fun p hp => by cases hp⟩
  · have := (hm.lt t _ e).2; omega
  · have := hm.mv.lt; omega
end Go.Proofs.Ytflpikickbellaa
