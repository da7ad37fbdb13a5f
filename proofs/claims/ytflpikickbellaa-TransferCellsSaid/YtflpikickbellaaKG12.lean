/- A map from ints to rows of ints that a call owns: each row in a block of its own. Layer 32: the program's begin. -/
import Derived.Test.YtflpikickbellaaKPx
import Derived.Test.YtflpikickbellaaKG3
import Derived.Test.YtflpikickbellaaKSorted
import Derived.Test.YtflpikickbellaaKG10
import Derived.Deep.RegionLaw
namespace Go.Proofs.Ytflpikickbellaa
open Go.RowKit Go.Shelf Go.Sort
set_option maxRecDepth 100000

/-- The row that a key has. -/
def vRow (G : Int → Option Value) (t : Int) : Value := (G t).getD (.slice none 0 0)
def upd {α : Type} (f : Int → α) (t : Int) (v : α) : Int → α := fun j => if j = t then v else f j
theorem upd_same {α : Type} (f : Int → α) (t : Int) (v : α) : upd f t v t = v := if_pos rfl
theorem upd_other {α : Type} (f : Int → α) {t u : Int} (v : α) (h : u ≠ t) : upd f t v u = f u := if_neg h
theorem vRow_same (G : Int → Option Value) (t : Int) (v : Value) : vRow (upd G t (some v)) t = v := by unfold vRow; rw [upd_same]; rfl
theorem vRow_other (G : Int → Option Value) {t u : Int} (v : Option Value) (h : u ≠ t) : vRow (upd G t v) u = vRow G u := by unfold vRow; rw [upd_other _ _ h]
theorem vRow_gone (G : Int → Option Value) (t : Int) : vRow (upd G t none) t = .slice none 0 0 := by unfold vRow; rw [upd_same]; rfl
structure MpR (w : World) (B mb n : Nat) (G : Int → Option Value) (C : Int → List Int) : Prop where
  mv : MapV w mb n G
  lo : B ≤ mb
  row : ∀ t, w.ownsRow B 3 1 (vRow G t) (C t).length (intV (C t))
  ap : ∀ t u k, t ≠ u → (vRow G t).ownBlock = some k → (vRow G u).ownBlock ≠ some k
  nm : ∀ t, (vRow G t).ownBlock ≠ some mb
theorem MpR.new (w : World) {B : Nat} (hB : B ≤ w.heap.size) : MpR (w.alloc (.map #[] 0)) B w.heap.size 0 (fun _ => none) (fun _ => []) :=
  ⟨MapV.new w, hB, fun _ => World.ownsRow_nil _ _ _ _, (fun _ _ _ _ h => by cases h), (fun _ h => by cases h)⟩
theorem MpR.kept {w w' : World} {B mb n : Nat} {G : Int → Option Value} {C : Int → List Int} {row : Option Nat} (h : MpR w B mb n G C) (hg : w.grownBy w' row) (h1 : some mb ≠ row) (h2 : ∀ t k, (vRow G t).ownBlock = some k → row ≠ some k) : MpR w' B mb n G C :=
  ⟨h.mv.kept hg h1, h.lo, fun t => (h.row t).kept hg (by
    cases e : (vRow G t).ownBlock with
    | none => exact Or.inl rfl
    | some k => exact Or.inr fun e2 => h2 t k e e2.symm), h.ap, h.nm⟩
theorem MpR.to {w w' : World} {B mb n : Nat} {G : Int → Option Value} {C : Int → List Int} (h : MpR w B mb n G C) (hb : Below w.heap.size w w') : MpR w' B mb n G C :=
  h.kept (grown_below hb (row := none)) (fun e => by cases e) (fun _ _ _ e => by cases e)
theorem MpR.lt {w : World} {B mb n : Nat} {G : Int → Option Value} {C : Int → List Int} (h : MpR w B mb n G C) (t : Int) : ∀ k, (vRow G t).ownBlock = some k → B ≤ k ∧ k < w.heap.size := World.ownsRow.lt (h.row t)
/-- A row as it is read. -/
theorem MpR.read {w : World} {B mb n : Nat} {G : Int → Option Value} {C : Int → List Int} (h : MpR w B mb n G C) (t : Int) : ∃ a c, vRow G t = .slice a (C t).length c ∧ SlI w w.heap.size a (C t) := by
  have h1 := h.row t
  obtain ⟨a, c, e, -⟩ := own_slice h1
  rw [e] at h1
  exact ⟨a, c, e, ownI.slI h1⟩
theorem MpR.ext {w : World} {B mb n : Nat} {G : Int → Option Value} {C C' : Int → List Int} (h : MpR w B mb n G C) (he : ∀ t, C t = C' t) : MpR w B mb n G C' := by
  obtain rfl : C = C' := funext he
  exact h
/-- The map, one of whose rows has been turned: its new value is not stored yet. -/
structure MpT (w : World) (B mb n : Nat) (G : Int → Option Value) (C : Int → List Int) (t : Int) (v : Value) (l : List Int) : Prop where
  mv : MapV w mb n G
  lo : B ≤ mb
  row : ∀ u, u ≠ t → w.ownsRow B 3 1 (vRow G u) (C u).length (intV (C u))
  ap : ∀ u u' k, u ≠ t → u' ≠ t → u ≠ u' → (vRow G u).ownBlock = some k → (vRow G u').ownBlock ≠ some k
  nm : ∀ u, u ≠ t → (vRow G u).ownBlock ≠ some mb
  me : w.ownsRow B 3 1 v l.length (intV l)
  am : ∀ u k, u ≠ t → v.ownBlock = some k → (vRow G u).ownBlock ≠ some k
  nv : v.ownBlock ≠ some mb
theorem MpR.turn {w w' : World} {B mb n : Nat} {G : Int → Option Value} {C : Int → List Int} (h : MpR w B mb n G C) {t : Int} {v : Value} {l : List Int} (hg : w.grownBy w' (vRow G t).ownBlock) (ho : w'.ownsRow B 3 1 v l.length (intV l))
    (hn : ∀ k, v.ownBlock = some k → (vRow G t).ownBlock = some k ∨ w.heap.size ≤ k) : MpT w' B mb n G C t v l :=
  ⟨h.mv.kept hg (fun e => h.nm t e.symm), h.lo, fun u hu => (h.row u).kept hg (by
      cases e : (vRow G u).ownBlock with
      | none => exact Or.inl rfl
      | some k => exact Or.inr fun e2 => h.ap u t k hu e e2.symm), fun u u' k _ _ hne => h.ap u u' k hne, fun u _ => h.nm u, ho, fun u k hu hk e => by
    rcases hn k hk with h1 | h1
    · exact h.ap u t k hu e h1
    · have := (h.lt u k e).2; omega, fun e => by
    rcases hn mb e with h1 | h1
    · exact h.nm t h1
    · have := h.mv.lt; omega⟩
theorem MpT.to {w w' : World} {B mb n : Nat} {G : Int → Option Value} {C : Int → List Int} {t : Int} {v : Value} {l : List Int} (h : MpT w B mb n G C t v l) (hb : Below w.heap.size w w') : MpT w' B mb n G C t v l :=
  ⟨h.mv.below hb h.mv.lt, h.lo, fun u hu => own_below (h.row u hu) hb (Nat.le_refl _), h.ap, h.nm, own_below h.me hb (Nat.le_refl _), h.am, h.nv⟩
theorem MpT.put {w : World} {B mb n : Nat} {G : Int → Option Value} {C : Int → List Int} {t : Int} {v : Value} {l : List Int} (h : MpT w B mb n G C t v l) (hn : n < maxLen) (ht : wfK t) :
    ∃ w', (Instr.mapUpdate 70 (.map (some mb)) (.int .i64 t) v).run Try.prog w = .ok () w' ∧ MpR w' B mb (n + 1) (upd G t (some v)) (upd C t l) ∧ w.grownBy w' (some mb) := by
  obtain ⟨w', hr, hm, hg⟩ := h.mv.put hn Try.underlying70 ht v
  have hg := hg.grown
  have keep : ∀ {v : Value} {k : Nat} {xs : List Value}, w.ownsRow B 3 1 v k xs → v.ownBlock ≠ some mb → w'.ownsRow B 3 1 v k xs := fun h1 h2 => h1.kept hg (Or.inr h2)
  refine ⟨w', hr, ⟨hm, h.lo, fun u => ?_, fun u u' k hne => ?_, fun u => ?_⟩, hg⟩
  · by_cases e : u = t
    · subst e; rw [vRow_same, upd_same]; exact keep h.me h.nv
    · rw [vRow_other _ _ e, upd_other _ _ e]; exact keep (h.row u e) (h.nm u e)
  · by_cases e : u = t
    · subst e
      have e' : u' ≠ u := fun e => hne e.symm
      rw [vRow_same, vRow_other _ _ e']
      exact h.am u' k e'
    · rw [vRow_other _ _ e]
      by_cases e' : u' = t
      · subst e'
        rw [vRow_same]
        intro h1 h2
        exact h.am u k e h2 h1
      · rw [vRow_other _ _ e']
        exact h.ap u u' k e e' hne
  · by_cases e : u = t
    · subst e; rw [vRow_same]; exact h.nv
    · rw [vRow_other _ _ e]; exact h.nm u e
/-- delete(m, t). -/
theorem MpR.drop {w : World} {B mb n : Nat} {G : Int → Option Value} {C : Int → List Int} (h : MpR w B mb n G C) {t : Int} (ht : wfK t) (ty : TypeId) :
    ∃ w', (Builtin.delete_ #[70, 3] ty #[.map (some mb), .int .i64 t]).run Try.prog w = .ok (.tuple #[]) w' ∧ MpR w' B mb n (upd G t none) (upd C t []) ∧ w.grownBy w' (some mb) := by
  obtain ⟨w', hr, hm, hg⟩ := h.mv.drop Try.underlying70 ht ty
  have hg := hg.grown
  refine ⟨w', hr, ⟨hm, h.lo, fun u => ?_, fun u u' k hne => ?_, fun u => ?_⟩, hg⟩
  · by_cases e : u = t
    · subst e; rw [vRow_gone, upd_same]; exact World.ownsRow_nil _ _ _ _
    · rw [vRow_other _ _ e, upd_other _ _ e]; exact (h.row u).kept hg (Or.inr (h.nm u))
  · by_cases e : u = t
    · subst e; rw [vRow_gone]; intro h; cases h
    · rw [vRow_other _ _ e]
      by_cases e' : u' = t
      · subst e'; rw [vRow_gone]; intro _ h; cases h
      · rw [vRow_other _ _ e']; exact h.ap u u' k hne
  · by_cases e : u = t
    · subst e; rw [vRow_gone]; intro h; cases h
    · rw [vRow_other _ _ e]; exact h.nm u
/-- m[t]. -/
theorem MpR.look {w : World} {B mb n : Nat} {G : Int → Option Value} {C : Int → List Int} (h : MpR w B mb n G C) {t : Int} (ht : wfK t) : (Instr.lookup 70 (.map (some mb)) (.int .i64 t) false).run Try.prog w = .ok (vRow G t) w :=
  h.mv.look Try.underlying70 (zero_ints w) ht
theorem MpT.look {w : World} {B mb n : Nat} {G : Int → Option Value} {C : Int → List Int} {t : Int} {v : Value} {l : List Int} (h : MpT w B mb n G C t v l) (ht : wfK t) : (Instr.lookup 70 (.map (some mb)) (.int .i64 t) false).run Try.prog w = .ok (vRow G t) w :=
  h.mv.look Try.underlying70 (zero_ints w) ht
/-- append(m[t], xs...): the row is turned. -/
theorem MpR.app {w : World} {B mb n : Nat} {G : Int → Option Value} {C : Int → List Int} (h : MpR w B mb n G C) (t : Int) (x : Int) (g : Nat) (hx : w.cell? ⟨g, 0, none⟩ = some (.int .i64 x)) (hl : (C t).length ≤ 1000000) :
    ∃ A' c' w', (Builtin.append_ #[22, 22] 22 #[vRow G t, .slice (some ⟨g, 0, none⟩) 1 1]).run Try.prog w = .ok (.slice A' ((C t).length + 1) c') w' ∧ MpT w' B mb n G C t (.slice A' ((C t).length + 1) c') (C t ++ [x]) ∧ w.grownBy w' (vRow G t).ownBlock ∧ ∀ k, (Value.slice A' ((C t).length + 1) c').ownBlock = some k → (vRow G t).ownBlock = some k ∨ w.heap.size ≤ k := by
  obtain ⟨ii, hii, hii0, hii1, hii2⟩ := info_parts info_int'
  obtain ⟨A', c', w', hr, ho, hg, hn⟩ := run_app_any Try.underlying22 hii hii0 hii1 hii2 rfl (by decide) (h.row t) (some ⟨g, 0, none⟩) 1 1 [.int .i64 x] rfl (fun e => by cases e) (fun ad e j u hu => by
      cases e
      match j, hu with
      | 0, hu => cases hu; rw [show (⟨g, 0, none⟩ : Addr).add 0 = ⟨g, 0, none⟩ by unfold Addr.add; split <;> simp_all]; exact hx) (by intro u hu; simp at hu; subst hu; rfl) (by unfold maxLen; omega) (by omega) (Nat.le_of_lt (Nat.lt_of_le_of_lt h.lo h.mv.lt))
  refine ⟨A', c', w', hr, h.turn (l := C t ++ [x]) hg ?_ hn, hg, hn⟩
  rw [List.length_append, List.length_singleton, intV_snoc]
  exact ho
end Go.Proofs.Ytflpikickbellaa
namespace Go.Proofs.Ytflpikickbellaa
open Go.RowKit Go.Shelf Go.Sort
set_option maxRecDepth 100000

theorem al_b {B : Nat} {W0 W : World} (h : Below B W0 W) (hB : B ≤ W0.heap.size) (o : Obj) : Below B W0 (W.alloc o) := h.alloc (Nat.le_trans hB h.size) o
theorem al_s {W0 W : World} (h : Below W0.heap.size W0 W) (o : Obj) : Below W0.heap.size W0 (W.alloc o) := al_b h (Nat.le_refl _) o
theorem step_append_ex {P : Program} {ops : Array Oper} {o : Oper} {a : Act} {w : World} {K : Act → World → Prop} {Q : Exit → Act → World → Prop} {E : Prop}
    (hg : o.guard = none) (d x : Operand) (dT sT : TypeId) (hop : o.op = Op.call { callee := Callee.builtin Builtin.append, args := #[d, x], argTypes := #[dT, sT] })
    (v u : Value) (hd : a.eval d = v) (hx : a.eval x = u) {R : Value → World → Prop} (hr : ∃ v' w', (Builtin.append_ #[dT, sT] o.type #[v, u]).run P w = .ok v' w' ∧ R v' w') (hK : ∀ v' w', R v' w' → K (a.put o.dst v') w') :
    if Region.wanted o (yielded ops a.tmps) = true then Oper.wp P o a w K Q else E := by
  obtain ⟨v', w', h1, h2⟩ := hr
  have hw : Region.wanted o (yielded ops a.tmps) = true := by simp [Region.wanted, hg]
  rw [if_pos hw]
  unfold Oper.wp
  simp [execOp, hop, resolve, invoke, builtin, hd, hx, h1, Result.andThen]
  exact hK v' w' h2
set_option maxHeartbeats 2000000 in
/-- off, and the world that it leaves. -/
theorem poff_ex (A F : Option Addr) (c fc : Nat) (s : Sft) (mb : Nat) (hs : SftOk s) (i : Nat) (hi : i < s.n) (w : World) (h : SfAt A F s w) :
    Calls Try.prog 35 #[wkV A F c fc s mb, .int .i64 (i : Int)] w fun e w' => e = .returned (.int .i64 (offN s i)) ∧ w' = w.alloc (wkB A F c fc s mb) := by
  have hbx := WkBx.new c fc mb h
  obtain ⟨b, off, z, hA, -, hzz, hcl⟩ := hbx.at_.tz.at_ (k := i) hi
  have c0 := hbx.c0
  obtain ⟨h0, h1, -⟩ := hs.to_ i hi
  have hn := hs.len
  have hz : s.to_.getD i 0 = z := by rw [List.getD_eq_getElem?_getD, hzz]; rfl
  have HF : Hid (offN s i = z - (i : Int)) := by show _ = _; unfold offN; rw [hz]
  rw [hz] at h0 h1
  have hi' : i < s.to_.length := hi
  have hn' : s.to_.length ≤ 40 := hn
  subst hA
  clear h hbx hz hi hn hzz hs
  go_enter Try.func35, Try.ntmps35
  go_wp2
  go_ret
  exact ⟨ret_int HF.out.symm, rfl⟩
/-! What begin has gathered of the first i loops. -/
def bgC (s : Sft) (i : Nat) (t : Int) : List Int := ((List.range i).filter (atN s (fun _ => false) t)).map fun i : Nat => (i : Int)
theorem bgC_all (s : Sft) (t : Int) : bgC s s.n t = waitsN s (fun _ => false) t := rfl
theorem bgC_zero (s : Sft) : bgC s 0 = fun _ => [] := rfl
theorem bgC_len (s : Sft) (i : Nat) (t : Int) : (bgC s i t).length ≤ i := by
  unfold bgC
  rw [List.length_map]
  have := List.length_filter_le (atN s (fun _ => false) t) (List.range i)
  rwa [List.length_range] at this
theorem bgC_next {s : Sft} {i : Nat} (h : movedN s i = true) : bgC s (i + 1) = upd (bgC s i) (offN s i) (bgC s i (offN s i) ++ [(i : Int)]) := by
  funext t
  have e : bgC s (i + 1) t = bgC s i t ++ if offN s i = t then [(i : Int)] else [] := by
    unfold bgC
    rw [List.range_succ, List.filter_append, List.map_append]
    congr 1
    by_cases ht : offN s i = t
    · rw [if_pos ht, List.filter_cons_of_pos (by unfold atN waitN; rw [h, decide_eq_true ht]; rfl)]; rfl
    · rw [if_neg ht, List.filter_cons_of_neg (by unfold atN; rw [decide_eq_false ht]; simp)]; rfl
  rw [e]
  by_cases ht : t = offN s i
  · subst ht; rw [if_pos rfl, upd_same]
  · rw [if_neg (fun e => ht e.symm), upd_other _ _ ht, List.append_nil]
theorem bgC_skip {s : Sft} {i : Nat} (h : movedN s i = false) : bgC s (i + 1) = bgC s i := by
  funext t
  unfold bgC
  rw [List.range_succ, List.filter_append, List.map_append, List.filter_cons_of_neg (by unfold atN waitN; rw [h]; simp)]
  simp
/-- begin's memory: w, as it was; rb, the result; wb, the work; mb, the map. -/
structure BgM (w : World) (rb wb mb : Nat) (A F : Option Addr) (c fc : Nat) (s : Sft) (i n : Nat) (G : Int → Option Value) (W : World) : Prop where
  c0 : W.cell? ⟨wb, 0, none⟩ = some (.slice A s.to_.length c)
  c1 : W.cell? ⟨wb, 1, none⟩ = some (.slice F s.first.length fc)
  c2 : W.cell? ⟨wb, 2, none⟩ = some (.map (some mb))
  r0 : W.cell? ⟨rb, 0, none⟩ = some (.slice none 0 0)
  r1 : W.cell? ⟨rb, 1, none⟩ = some (.slice none 0 0)
  r2 : W.cell? ⟨rb, 2, none⟩ = some (.map none)
  rf : ∀ k, W.frozen? ⟨rb, k, none⟩ = false
  bl : Below w.heap.size w W
  mp : MpR W w.heap.size mb n G (bgC s i)
  nn : n ≤ i
  dom : ∀ t, (G t).isSome = decide (bgC s i t ≠ [])
  aw : ∀ t, (vRow G t).ownBlock ≠ some wb
  ar : ∀ t, (vRow G t).ownBlock ≠ some rb
  mw : mb ≠ wb
  mr : mb ≠ rb
theorem BgM.to {w W W' : World} {rb wb mb : Nat} {A F : Option Addr} {c fc : Nat} {s : Sft} {i n : Nat} {G : Int → Option Value} (h : BgM w rb wb mb A F c fc s i n G W) (hb : Below W.heap.size W W') : BgM w rb wb mb A F c fc s i n G W' :=
  ⟨(bcell hb (lt_of_cell h.c0) _).trans h.c0, (bcell hb (lt_of_cell h.c1) _).trans h.c1, (bcell hb (lt_of_cell h.c2) _).trans h.c2,
   (bcell hb (lt_of_cell h.r0) _).trans h.r0, (bcell hb (lt_of_cell h.r1) _).trans h.r1, (bcell hb (lt_of_cell h.r2) _).trans h.r2,
   fun k => (Below.frozen hb (p := ⟨rb, k, none⟩) (lt_of_cell h.r0)).trans (h.rf k), h.bl.trans (hb.mono h.bl.size), h.mp.to hb, h.nn, h.dom, h.aw, h.ar, h.mw, h.mr⟩
theorem BgM.wk {w W : World} {rb wb mb : Nat} {A F : Option Addr} {c fc : Nat} {s : Sft} {i n : Nat} {G : Int → Option Value} (h : BgM w rb wb mb A F c fc s i n G W) (hs : SfAt A F s w) : WkBx wb A F c fc s mb W := ⟨h.c0, h.c1, h.c2, hs.to h.bl⟩
theorem BgM.skip {w W : World} {rb wb mb : Nat} {A F : Option Addr} {c fc : Nat} {s : Sft} {i n : Nat} {G : Int → Option Value} (h : BgM w rb wb mb A F c fc s i n G W) (hm : movedN s i = false) : BgM w rb wb mb A F c fc s (i + 1) n G W :=
  ⟨h.c0, h.c1, h.c2, h.r0, h.r1, h.r2, h.rf, h.bl, by rw [bgC_skip hm]; exact h.mp, by have := h.nn; omega, by rw [bgC_skip hm]; exact h.dom, h.aw, h.ar, h.mw, h.mr⟩
/-- What a loop that is moved does: an append, and the map's store. -/
theorem BgM.step {w W : World} {rb wb mb : Nat} {A F : Option Addr} {c fc : Nat} {s : Sft} {i n : Nat} {G : Int → Option Value} (h : BgM w rb wb mb A F c fc s i n G W) (hs : SfAt A F s w) (ho : SftOk s) (hi : i < s.n) (hm : movedN s i = true)
    {a : Option Addr} {k : Nat} (hv : vRow G (offN s i) = .slice a (bgC s i (offN s i)).length k) (g : Nat) (hg : W.cell? ⟨g, 0, none⟩ = some (.int .i64 (i : Int))) :
    ∃ v' w2, (Builtin.append_ #[22, 22] 22 #[.slice a (bgC s i (offN s i)).length k, .slice (some ⟨g, 0, none⟩) 1 1]).run Try.prog W = .ok v' w2 ∧
      ∃ A' c', v' = .slice A' ((bgC s i (offN s i)).length + 1) c' ∧ w2.cell? ⟨wb, 0, none⟩ = some (.slice A s.to_.length c) ∧ w2.cell? ⟨wb, 1, none⟩ = some (.slice F s.first.length fc) ∧ w2.cell? ⟨wb, 2, none⟩ = some (.map (some mb)) ∧ SfAt A F s w2 ∧
      ∀ W3, Below w2.heap.size w2 W3 → W3.cell? ⟨wb, 0, none⟩ = some (.slice A s.to_.length c) ∧ W3.cell? ⟨wb, 1, none⟩ = some (.slice F s.first.length fc) ∧ W3.cell? ⟨wb, 2, none⟩ = some (.map (some mb)) ∧
        ∃ w4, (Instr.mapUpdate 70 (.map (some mb)) (.int .i64 (offN s i)) v').run Try.prog W3 = .ok () w4 ∧ BgM w rb wb mb A F c fc s (i + 1) (n + 1) (upd G (offN s i) (some v')) w4 := by
  have hor := (ho.to_ i hi).2.2
  have hn := ho.len
  have hwf : wfK (offN s i) := wfK_small hor.1 hor.2
  have hl := bgC_len s i (offN s i)
  obtain ⟨A', c', w2, hr, ht, hgr, hnb⟩ := h.mp.app (offN s i) (i : Int) g hg (by omega)
  rw [hv] at hr hgr hnb
  have hap := h.aw (offN s i)
  have har := h.ar (offN s i)
  rw [hv] at hap har
  have hrow := h.mp.lt (offN s i)
  rw [hv] at hrow
  have kp : ∀ {b o : Nat} {v : Value}, W.cell? ⟨b, o, none⟩ = some v → (Value.slice a (bgC s i (offN s i)).length k).ownBlock ≠ some b → w2.cell? ⟨b, o, none⟩ = some v := fun h1 h2 => hgr.cell h1 (fun e => h2 e.symm)
  have hbl : Below w.heap.size w w2 := h.bl.grown hgr h.bl.size (fun k e => (hrow k e).1)
  have hsz := hgr.size
  refine ⟨_, w2, hr, A', c', rfl, kp h.c0 hap, kp h.c1 hap, kp h.c2 hap, hs.to hbl, fun W3 hb3 => ?_⟩
  have ht3 := ht.to hb3
  obtain ⟨w4, h4, hm4, hg4⟩ := ht3.put (by have := h.nn; unfold maxLen; omega) hwf
  have kp3 : ∀ {b o : Nat} {v : Value}, w2.cell? ⟨b, o, none⟩ = some v → W3.cell? ⟨b, o, none⟩ = some v := fun h1 => (bcell hb3 (lt_of_cell h1) _).trans h1
  have kp4 : ∀ {b o : Nat} {v : Value}, W3.cell? ⟨b, o, none⟩ = some v → mb ≠ b → w4.cell? ⟨b, o, none⟩ = some v := fun h1 h2 => hg4.cell h1 (fun e => h2 (Option.some.inj e).symm)
  have q0 := kp3 (kp h.c0 hap)
  have q1 := kp3 (kp h.c1 hap)
  have q2 := kp3 (kp h.c2 hap)
  have hgt : ∀ t k, (vRow (upd G (offN s i) (some (.slice A' ((bgC s i (offN s i)).length + 1) c'))) t).ownBlock = some k → (∀ u, (vRow G u).ownBlock ≠ some k) → W.heap.size ≤ k := fun t k e hk => by
    by_cases et : t = offN s i
    · subst et
      rw [vRow_same] at e
      rcases hnb k e with h1 | h1
      · exact absurd (by rw [hv]; exact h1) (hk (offN s i))
      · exact h1
    · rw [vRow_other _ _ et] at e
      exact absurd e (hk t)
  refine ⟨q0, q1, q2, w4, h4, ⟨kp4 q0 h.mw, kp4 q1 h.mw, kp4 q2 h.mw, kp4 (kp3 (kp h.r0 har)) h.mr, kp4 (kp3 (kp h.r1 har)) h.mr, kp4 (kp3 (kp h.r2 har)) h.mr, fun k => ?_, ?_, ?_, by have := h.nn; omega, fun t => ?_, fun t e => ?_, fun t e => ?_, h.mw, h.mr⟩⟩
  · have hrl := lt_of_cell h.r0
    rw [World.frozen?_of_block (a := ⟨rb, k, none⟩) (hg4.block rb (by have := hb3.size; omega) (fun e => h.mr (Option.some.inj e).symm)), Below.frozen hb3 (p := ⟨rb, k, none⟩) (by show rb < _; omega), World.frozen?_of_block (a := ⟨rb, k, none⟩) (hgr.block rb hrl (fun e => har e.symm))]
    exact h.rf k
  · exact (hbl.trans (hb3.mono hbl.size)).grown hg4 (Nat.le_trans hbl.size hb3.size) (fun k e => by cases e; exact h.mp.lo)
  · rw [bgC_next hm]; exact hm4
  · rw [bgC_next hm]
    by_cases et : t = offN s i
    · subst et; rw [upd_same, upd_same]; simp
    · rw [upd_other _ _ et, upd_other _ _ et]; exact h.dom t
  · have := hgt t wb e h.aw
    have := lt_of_cell h.c0
    omega
  · have := hgt t rb e h.ar
    have := lt_of_cell h.r0
    omega
end Go.Proofs.Ytflpikickbellaa
