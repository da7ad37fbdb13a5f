/- slices.Sorted of slices.Values, Compact of it, at ints. -/
import Derived.Test.YtflpikickbellaaGreatZ7
import Derived.Sort.OwnSorted
import Derived.Deep.RegionHeld
namespace Go.Proofs.YtflpikickbellaaGreat
open Go.RowKit Go.Shelf Go.Sort Go.Maps
set_option maxRecDepth 100000
def sortZ (l : List Int) : List Int := l.mergeSort fun x y => decide (x ≤ y)
theorem sortZ_len (l : List Int) : (sortZ l).length = l.length := by unfold sortZ; exact List.length_mergeSort l
theorem sortZ_mem {l : List Int} {x : Int} : x ∈ sortZ l ↔ x ∈ l := by unfold sortZ; exact List.mem_mergeSort
def ownI (w : World) (B : Nat) (v : Value) (l : List Int) : Prop := w.ownsRow B 3 1 v l.length (intV l)
theorem ownI.slI {w : World} {B : Nat} {a : Option Addr} {n c : Nat} {l : List Int} (h : ownI w B (.slice a n c) l) : SlI w w.heap.size a l := fun hne => by
 have hp : 0 < l.length := List.length_pos_iff.2 hne
 rcases h.2 with ⟨hv, h0⟩ | ⟨g, cap, cur, hv, hg, hh, r⟩
 · omega
 · cases hv
   refine ⟨g, 0, rfl, (Array.getElem?_eq_some_iff.1 hh).1, fun j z hz => ?_⟩
   have hlt : j < l.length := (List.getElem?_eq_some_iff.1 hz).1
   have := World.ownsRow.cellAt h j (by omega)
   rw [Nat.zero_add, this]
   unfold intV
   rw [List.getElem?_map, hz]; rfl
set_option maxHeartbeats 1000000 in
theorem collect_any (Bs : Nat) (A : Option Addr) (c : Nat) (zs : List Int) (hl : zs.length ≤ 1000000) (w : World) (hBs : Bs < w.heap.size) (hc0 : w.cell? ⟨Bs, 0, none⟩ = some (.slice A zs.length c)) (hs : SlI w w.heap.size A zs) :
 Calls Tryz.prog 47 #[.func (.func 58) #[] #[.pointer (some ⟨Bs, 0, none⟩)]] w fun e w' => ∃ v, e = .returned v ∧ ownI w' w.heap.size v zs ∧ Below w.heap.size w w' := by
 have HA := Lib.hid (appendSeq_any Bs A c zs hl w hBs hc0 hs)
 clear hs hc0
 go_enter Tryz.func47, Tryz.ntmps47
 go_wp2_with (go_at_call 92; refine HA.out.mono ?_; rintro e w1 ⟨v, rfl, hown, hb⟩)
 go_ret
 exact ⟨v, rfl, hown, hb⟩
set_option maxHeartbeats 2000000 in
theorem sorted_any (Bs : Nat) (A : Option Addr) (c : Nat) (zs : List Int) (hl : zs.length ≤ 1000000) (w : World) (hBs : Bs < w.heap.size) (hc0 : w.cell? ⟨Bs, 0, none⟩ = some (.slice A zs.length c)) (hs : SlI w w.heap.size A zs) :
 Calls Tryz.prog 26 #[.func (.func 58) #[] #[.pointer (some ⟨Bs, 0, none⟩)]] w fun e w' => ∃ v, e = .returned v ∧ ownI w' w.heap.size v (sortZ zs) ∧ Below w.heap.size w w' := by
 have HA := Lib.hid (collect_any Bs A c zs hl w hBs hc0 hs)
 clear hs hc0
 go_enter Tryz.func26, Tryz.ntmps26
 go_wp2_with fail
 refine HA.out.mono ?_
 rintro e w1 ⟨v, rfl, hown, hb⟩
 rcases hown.2 with ⟨rfl, hz⟩ | ⟨gb, cap, cur, rfl, hbase, hgb, r1, r2, r3, r4⟩
 · have hzs : zs = [] := List.eq_nil_of_length_eq_zero hz
   subst hzs
   have HB := Lib.hid hb
   have hn : sortZ [] = [] := by simp [sortZ]
   clear hown hb
   go_wp2_with fail
   refine (Tryz.slices_Sort_int_none none 0 w1).mono ?_
   rintro e w' ⟨rfl, rfl⟩
   go_wp2
   go_ret
   exact ⟨.slice none 0 0, rfl, by rw [hn]; exact World.ownsRow_nil _ _ _ _, HB.out⟩
 · have hH : Holds (Value.int .i64) w1 gb 0 zs.toArray := holds_of_block_i hgb (by simpa [intV] using r4)
   have hgl : gb < w1.heap.size := (Array.getElem?_eq_some_iff.1 hgb).1
   have cS := Tryz.slices_Sort_int gb 0 cap zs w1 hH hgl (by omega)
   have HB := Lib.hid hb
   have HR := Lib.hid (show _ ∧ _ ∧ _ ∧ _ ∧ _ from ⟨hbase, hgb, r1, r2, r3⟩)
   clear hown hb hH r4 hgb
   go_wp2_with fail
   refine cS.mono ?_
   rintro e w' ⟨rfl, nn, os, rfl⟩
   have ho : (grow (putRow (Value.int .i64) (Sort.ahead w1 nn) gb 0 (sortZ zs).toArray) os).ownsRow w.heap.size 3 1 (.slice (some ⟨gb, 0, none⟩) zs.length cap) zs.length (intV (sortZ zs)) :=
    ownsRow_sorted_i (sortZ_len zs) HR.out.1 HR.out.2.1 HR.out.2.2.1 HR.out.2.2.2.1 HR.out.2.2.2.2
   have hbb : Below w.heap.size w (grow (putRow (Value.int .i64) (Sort.ahead w1 nn) gb 0 (sortZ zs).toArray) os) := HB.out.grown (grownBy_sorted_i _) HB.out.size (fun j hj => by cases hj; exact HR.out.1)
   have HO := Lib.hid (show _ ∧ _ from ⟨ho, hbb⟩)
   clear ho hbb cS HR HB
   obtain ⟨w2, hw2⟩ : ∃ w2, w2 = grow (putRow (Value.int .i64) (Sort.ahead w1 nn) gb 0 (zs.mergeSort fun x y => decide (x ≤ y)).toArray) os := ⟨_, rfl⟩
   have HO2 : Hid (w2.ownsRow w.heap.size 3 1 (.slice (some ⟨gb, 0, none⟩) zs.length cap) zs.length (intV (sortZ zs)) ∧ Below w.heap.size w w2) := by rw [hw2]; exact HO.out
   rw [← hw2]
   clear HO hw2
   go_wp2
   go_ret
   refine ⟨_, rfl, ?_, HO2.out.2⟩
   unfold ownI
   rw [sortZ_len]
   exact HO2.out.1
end Go.Proofs.YtflpikickbellaaGreat
namespace Go.Proofs.YtflpikickbellaaGreat
open Go.RowKit Go.Shelf Go.Sort
set_option maxRecDepth 100000
def vRow (G : Int → Option Value) (t : Int) : Value := (G t).getD (.slice none 0 0)
def upd {α : Type} (f : Int → α) (t : Int) (v : α) : Int → α := fun j => if j = t then v else f j
theorem upd_same {α : Type} (f : Int → α) (t : Int) (v : α) : upd f t v t = v := if_pos rfl
theorem upd_other {α : Type} (f : Int → α) {t u : Int} (v : α) (h : u ≠ t) : upd f t v u = f u := if_neg h
theorem vRow_same (G : Int → Option Value) (t : Int) (v : Value) : vRow (upd G t (some v)) t = v := by unfold vRow; rw [upd_same]; rfl
theorem vRow_other (G : Int → Option Value) {t u : Int} (v : Option Value) (h : u ≠ t) : vRow (upd G t v) u = vRow G u := by unfold vRow; rw [upd_other _ _ h]
theorem vRow_gone (G : Int → Option Value) (t : Int) : vRow (upd G t none) t = .slice none 0 0 := by unfold vRow; rw [upd_same]; rfl
structure MpR (w : World) (B mb n : Nat) (G : Int → Option Value) (C : Int → List Int) : Prop where
 mv : MapV w mb n G
 lo : B ≤ mb
 row : ∀ t, w.ownsRow B 3 1 (vRow G t) (C t).length (intV (C t))
 ap : ∀ t u k, t ≠ u → (vRow G t).ownBlock = some k → (vRow G u).ownBlock ≠ some k
 nm : ∀ t, (vRow G t).ownBlock ≠ some mb
theorem MpR.new (w : World) {B : Nat} (hB : B ≤ w.heap.size) : MpR (w.alloc (.map #[] 0)) B w.heap.size 0 (fun _ => none) (fun _ => []) :=
 ⟨MapV.new w, hB, fun _ => World.ownsRow_nil _ _ _ _, (fun _ _ _ _ h => by cases h), (fun _ h => by cases h)⟩
theorem MpR.kept {w w' : World} {B mb n : Nat} {G : Int → Option Value} {C : Int → List Int} {row : Option Nat} (h : MpR w B mb n G C) (hg : w.grownBy w' row) (h1 : some mb ≠ row) (h2 : ∀ t k, (vRow G t).ownBlock = some k → row ≠ some k) : MpR w' B mb n G C :=
 ⟨h.mv.kept hg h1, h.lo, fun t => (h.row t).kept hg (by
   cases e : (vRow G t).ownBlock with
   | none => exact Or.inl rfl
   | some k => exact Or.inr fun e2 => h2 t k e e2.symm), h.ap, h.nm⟩
theorem MpR.to {w w' : World} {B mb n : Nat} {G : Int → Option Value} {C : Int → List Int} (h : MpR w B mb n G C) (hb : Below w.heap.size w w') : MpR w' B mb n G C :=
 h.kept (grown_below hb (row := none)) (fun e => by cases e) (fun _ _ _ e => by cases e)
theorem MpR.lt {w : World} {B mb n : Nat} {G : Int → Option Value} {C : Int → List Int} (h : MpR w B mb n G C) (t : Int) : ∀ k, (vRow G t).ownBlock = some k → B ≤ k ∧ k < w.heap.size := World.ownsRow.lt (h.row t)
theorem MpR.read {w : World} {B mb n : Nat} {G : Int → Option Value} {C : Int → List Int} (h : MpR w B mb n G C) (t : Int) : ∃ a c, vRow G t = .slice a (C t).length c ∧ SlI w w.heap.size a (C t) := by
 have h1 := h.row t
 obtain ⟨a, c, e, -⟩ := own_slice h1
 rw [e] at h1
 exact ⟨a, c, e, ownI.slI h1⟩
theorem MpR.ext {w : World} {B mb n : Nat} {G : Int → Option Value} {C C' : Int → List Int} (h : MpR w B mb n G C) (he : ∀ t, C t = C' t) : MpR w B mb n G C' := by
 obtain rfl : C = C' := funext he
 exact h
structure MpT (w : World) (B mb n : Nat) (G : Int → Option Value) (C : Int → List Int) (t : Int) (v : Value) (l : List Int) : Prop where
 mv : MapV w mb n G
 lo : B ≤ mb
 row : ∀ u, u ≠ t → w.ownsRow B 3 1 (vRow G u) (C u).length (intV (C u))
 ap : ∀ u u' k, u ≠ t → u' ≠ t → u ≠ u' → (vRow G u).ownBlock = some k → (vRow G u').ownBlock ≠ some k
 nm : ∀ u, u ≠ t → (vRow G u).ownBlock ≠ some mb
 me : w.ownsRow B 3 1 v l.length (intV l)
 am : ∀ u k, u ≠ t → v.ownBlock = some k → (vRow G u).ownBlock ≠ some k
 nv : v.ownBlock ≠ some mb
theorem MpR.turn {w w' : World} {B mb n : Nat} {G : Int → Option Value} {C : Int → List Int} (h : MpR w B mb n G C) {t : Int} {v : Value} {l : List Int} (hg : w.grownBy w' (vRow G t).ownBlock) (ho : w'.ownsRow B 3 1 v l.length (intV l))
 (hn : ∀ k, v.ownBlock = some k → (vRow G t).ownBlock = some k ∨ w.heap.size ≤ k) : MpT w' B mb n G C t v l :=
 ⟨h.mv.kept hg (fun e => h.nm t e.symm), h.lo, fun u hu => (h.row u).kept hg (by
   cases e : (vRow G u).ownBlock with
   | none => exact Or.inl rfl
   | some k => exact Or.inr fun e2 => h.ap u t k hu e e2.symm), fun u u' k _ _ hne => h.ap u u' k hne, fun u _ => h.nm u, ho, fun u k hu hk e => by
   rcases hn k hk with h1 | h1
   · exact h.ap u t k hu e h1
   · have := (h.lt u k e).2; omega, fun e => by
   rcases hn mb e with h1 | h1
   · exact h.nm t h1
   · have := h.mv.lt; omega⟩
theorem MpT.to {w w' : World} {B mb n : Nat} {G : Int → Option Value} {C : Int → List Int} {t : Int} {v : Value} {l : List Int} (h : MpT w B mb n G C t v l) (hb : Below w.heap.size w w') : MpT w' B mb n G C t v l :=
 ⟨h.mv.below hb h.mv.lt, h.lo, fun u hu => own_below (h.row u hu) hb (Nat.le_refl _), h.ap, h.nm, own_below h.me hb (Nat.le_refl _), h.am, h.nv⟩
theorem MpT.put {w : World} {B mb n : Nat} {G : Int → Option Value} {C : Int → List Int} {t : Int} {v : Value} {l : List Int} (h : MpT w B mb n G C t v l) (hn : n < maxLen) (ht : wfK t) :
 ∃ w', (Instr.mapUpdate 79 (.map (some mb)) (.int .i64 t) v).run Tryz.prog w = .ok () w' ∧ MpR w' B mb (n + 1) (upd G t (some v)) (upd C t l) ∧ w.grownBy w' (some mb) := by
 obtain ⟨w', hr, hm, hg⟩ := h.mv.put hn Tryz.underlying79 ht v
 have hg := hg.grown
 have keep : ∀ {v : Value} {k : Nat} {xs : List Value}, w.ownsRow B 3 1 v k xs → v.ownBlock ≠ some mb → w'.ownsRow B 3 1 v k xs := fun h1 h2 => h1.kept hg (Or.inr h2)
 refine ⟨w', hr, ⟨hm, h.lo, fun u => ?_, fun u u' k hne => ?_, fun u => ?_⟩, hg⟩
 · by_cases e : u = t
   · subst e; rw [vRow_same, upd_same]; exact keep h.me h.nv
   · rw [vRow_other _ _ e, upd_other _ _ e]; exact keep (h.row u e) (h.nm u e)
 · by_cases e : u = t
   · subst e
     have e' : u' ≠ u := fun e => hne e.symm
     rw [vRow_same, vRow_other _ _ e']
     exact h.am u' k e'
   · rw [vRow_other _ _ e]
     by_cases e' : u' = t
     · subst e'
       rw [vRow_same]
       intro h1 h2
       exact h.am u k e h2 h1
     · rw [vRow_other _ _ e']
       exact h.ap u u' k e e' hne
 · by_cases e : u = t
   · subst e; rw [vRow_same]; exact h.nv
   · rw [vRow_other _ _ e]; exact h.nm u e
theorem MpR.drop {w : World} {B mb n : Nat} {G : Int → Option Value} {C : Int → List Int} (h : MpR w B mb n G C) {t : Int} (ht : wfK t) (ty : TypeId) :
 ∃ w', (Builtin.delete_ #[79, 3] ty #[.map (some mb), .int .i64 t]).run Tryz.prog w = .ok (.tuple #[]) w' ∧ MpR w' B mb n (upd G t none) (upd C t []) ∧ w.grownBy w' (some mb) := by
 obtain ⟨w', hr, hm, hg⟩ := h.mv.drop Tryz.underlying79 ht ty
 have hg := hg.grown
 refine ⟨w', hr, ⟨hm, h.lo, fun u => ?_, fun u u' k hne => ?_, fun u => ?_⟩, hg⟩
 · by_cases e : u = t
   · subst e; rw [vRow_gone, upd_same]; exact World.ownsRow_nil _ _ _ _
   · rw [vRow_other _ _ e, upd_other _ _ e]; exact (h.row u).kept hg (Or.inr (h.nm u))
 · by_cases e : u = t
   · subst e; rw [vRow_gone]; intro h; cases h
   · rw [vRow_other _ _ e]
     by_cases e' : u' = t
     · subst e'; rw [vRow_gone]; intro _ h; cases h
     · rw [vRow_other _ _ e']; exact h.ap u u' k hne
 · by_cases e : u = t
   · subst e; rw [vRow_gone]; intro h; cases h
   · rw [vRow_other _ _ e]; exact h.nm u
theorem MpR.look {w : World} {B mb n : Nat} {G : Int → Option Value} {C : Int → List Int} (h : MpR w B mb n G C) {t : Int} (ht : wfK t) : (Instr.lookup 79 (.map (some mb)) (.int .i64 t) false).run Tryz.prog w = .ok (vRow G t) w :=
 h.mv.look Tryz.underlying79 (zero_ints w) ht
theorem MpR.app {w : World} {B mb n : Nat} {G : Int → Option Value} {C : Int → List Int} (h : MpR w B mb n G C) (t : Int) (x : Int) (g : Nat) (hx : w.cell? ⟨g, 0, none⟩ = some (.int .i64 x)) (hl : (C t).length ≤ 1000000) :
 ∃ A' c' w', (Builtin.append_ #[22, 22] 22 #[vRow G t, .slice (some ⟨g, 0, none⟩) 1 1]).run Tryz.prog w = .ok (.slice A' ((C t).length + 1) c') w' ∧ MpT w' B mb n G C t (.slice A' ((C t).length + 1) c') (C t ++ [x]) ∧ w.grownBy w' (vRow G t).ownBlock ∧ ∀ k, (Value.slice A' ((C t).length + 1) c').ownBlock = some k → (vRow G t).ownBlock = some k ∨ w.heap.size ≤ k := by
 obtain ⟨ii, hii, hii0, hii1, hii2⟩ := info_parts info_int'
 obtain ⟨A', c', w', hr, ho, hg, hn⟩ := run_app_any Tryz.underlying22 hii hii0 hii1 hii2 rfl (by decide) (h.row t) (some ⟨g, 0, none⟩) 1 1 [.int .i64 x] rfl (fun e => by cases e) (fun ad e j u hu => by
  cases e
  match j, hu with
  | 0, hu => cases hu; rw [show (⟨g, 0, none⟩ : Addr).add 0 = ⟨g, 0, none⟩ by unfold Addr.add; split <;> simp_all]; exact hx) (by intro u hu; simp at hu; subst hu; rfl) (by unfold maxLen; omega) (by omega) (Nat.le_of_lt (Nat.lt_of_le_of_lt h.lo h.mv.lt))
 refine ⟨A', c', w', hr, h.turn (l := C t ++ [x]) hg ?_ hn, hg, hn⟩
 rw [List.length_append, List.length_singleton, intV_snoc]
 exact ho
theorem stops_len : stops17.length = 17 := by simp [stops17]
def NxPost (w : World) (R : Option Int) (e : Ending) (w' : World) : Prop := e = .returned (.tuple #[.int .i64 (R.getD 0), .bool R.isSome]) ∧ Below w.heap.size w w'
theorem NxPost.some_ {w w' : World} {R : Option Int} {t : Int} (h : R = some t) (hb : Below w.heap.size w w') : NxPost w R (.returned (.tuple #[.int .i64 t, .bool true])) w' := by subst h; exact ⟨rfl, hb⟩
theorem NxPost.none_ {w w' : World} {R : Option Int} (h : R = none) (hb : Below w.heap.size w w') : NxPost w R (.returned (.tuple #[.int .i64 0, .bool false])) w' := by subst h; exact ⟨rfl, hb⟩
end Go.Proofs.YtflpikickbellaaGreat
