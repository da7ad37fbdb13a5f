/- Layer 31: needles, use, yarn, column, racked. -/
import Derived.Test.YtbnddpknejgmhaaHook
import Derived.Deep.RegionWith
namespace Go.Proofs.Ytbnddpknejgmhaa
open Go.RowKit
set_option maxRecDepth 100000

def hooks (i : Ins) : List Hook := if i.op = 7 then [(i.bed, i.at_), (1 - i.bed, i.to_)] else if i.op = 9 then [(i.bed, i.at_)] else []
/-- What the code needs of an instruction's numbers. -/
def Ins.fit (i : Ins) : Prop := 0 ≤ i.op ∧ i.op ≤ 255 ∧ 0 ≤ i.bed ∧ i.bed ≤ 1 ∧ needleP i.at_ ∧ needleP i.to_ ∧ carP' i.car ∧ -8 ≤ i.rack ∧ i.rack ≤ 8
where carP' (c : Int) : Prop := 0 ≤ c ∧ c ≤ 6
def hcells (u : Hook) : List Value := [.int .u8 u.1, .int .i64 u.2]
def SlH (w : World) (B : Nat) (A : Option Addr) (l : List Hook) : Prop := SlS 2 w B A (l.map hcells)

theorem SlH.at_ {w : World} {B : Nat} {A : Option Addr} {l : List Hook} (h : SlH w B A l) {k : Nat} (hk : k < l.length) :
    ∃ b off u, A = some ⟨b, off, none⟩ ∧ b < B ∧ l[k]? = some u ∧ w.cell? ⟨b, off + k * 2, none⟩ = some (.int .u8 u.1) ∧ w.cell? ⟨b, off + k * 2 + 1, none⟩ = some (.int .i64 u.2) := by
  obtain ⟨b, off, cs, e, hB, hz, hc⟩ := SlS.at_ h (k := k) (by simpa using hk)
  rw [List.getElem?_map] at hz
  cases hl : l[k]? with
  | none => rw [hl] at hz; cases hz
  | some i =>
    rw [hl] at hz
    simp only [Option.map_some, Option.some.injEq] at hz
    subst hz
    exact ⟨b, off, i, e, hB, rfl, hc 0 _ rfl, hc 1 _ rfl⟩

theorem hooks_len (i : Ins) : (hooks i).length ≤ 2 := by
  unfold hooks
  split
  · simp
  · split <;> simp
theorem hooks_ok {i : Ins} (h : i.fit) : ∀ u ∈ hooks i, okU u := by
  obtain ⟨_, _, h1, h2, ⟨h3, h4⟩, ⟨h5, h6⟩, _⟩ := h
  intro u hu
  unfold hooks at hu
  split at hu
  · simp only [List.mem_cons, List.not_mem_nil, or_false] at hu
    rcases hu with rfl | rfl
    · exact ⟨by simp [Lit.wf, IntKind.min, IntKind.max, IntKind.signed, IntKind.bits]; omega, by simp [Lit.wf, IntKind.min, IntKind.max, IntKind.signed, IntKind.bits]; omega⟩
    · exact ⟨by simp [Lit.wf, IntKind.min, IntKind.max, IntKind.signed, IntKind.bits]; omega, by simp [Lit.wf, IntKind.min, IntKind.max, IntKind.signed, IntKind.bits]; omega⟩
  · split at hu
    · simp only [List.mem_cons, List.not_mem_nil, or_false] at hu
      subst hu
      exact ⟨by simp [Lit.wf, IntKind.min, IntKind.max, IntKind.signed, IntKind.bits]; omega, by simp [Lit.wf, IntKind.min, IntKind.max, IntKind.signed, IntKind.bits]; omega⟩
    · cases hu

theorem yarn_any (op : Int) (w : World) : Calls Try.prog 61 #[.int .u8 op] w fun e w' => e = .returned (.bool (decide (3 ≤ op ∧ op ≤ 6))) ∧ w = w' := by
  go_enter Try.func61, Try.ntmps61
  go_wp2
  all_goals go_ret
  all_goals refine ⟨ret_bool ?_, rfl⟩
  all_goals (rw [Bool.eq_iff_iff]; first | (simp; done) | (simp; omega))

theorem SlS.new {sz : Nat} {zs : List (List Value)} {b : Nat} (w : World) (cs : Array Value) (t : TypeId) (hb : b = w.heap.size) (h : ∀ j c, zs[j]? = some c → ∀ i v, c[i]? = some v → cs[j * sz + i]? = some v) :
    SlS sz (w.alloc (.cells cs t)) (b + 1) (some ⟨b, 0, none⟩) zs := fun _ => by
  subst hb
  refine ⟨_, _, rfl, by omega, fun j c hz i v hv => ?_⟩
  have := h j c hz i v hv
  have e : (w.alloc (.cells cs t)).heap[w.heap.size]? = some (.cells cs t) := Array.getElem?_push_size
  simp only [World.cell?, e, Nat.zero_add]
  exact this

set_option maxHeartbeats 1000000 in
theorem needles_any (i : Ins) (hi : i.fit) (w : World) : Calls Try.prog 64 #[i.val] w fun e w' =>
    ∃ A c, e = .returned (.slice A (hooks i).length c) ∧ SlH w' w'.heap.size A (hooks i) ∧ Below w.heap.size w w' := by
  obtain ⟨_, _, h1, h2, _⟩ := hi
  have hb2 : IntKind.u8.wrap (1 - i.bed) = 1 - i.bed := by simp [IntKind.wrap, IntKind.signed, IntKind.bits]; omega
  by_cases h7 : i.op = 7
  · have HK : Hid (hooks i = [(i.bed, i.at_), (1 - i.bed, i.to_)]) := by unfold Hid hooks; rw [if_pos h7]
    go_enter Try.func64, Try.ntmps64
    go_wp2
    go_ret
    refine ⟨some ⟨w.heap.size + 1, 0, none⟩, 2, by rw [HK.out]; rfl, ?_, ((Below.refl _ _).alloc (Nat.le_refl _) _).alloc (by simp) _⟩
    rw [HK.out]
    refine SlS.more (SlS.new (b := w.heap.size + 1) (w.alloc _) _ _ (by simp) fun j c hz k v hv => ?_) (by simp)
    match j, hz with
    | 0, hz => simp [hcells] at hz; subst hz; match k, hv with
      | 0, hv => exact hv
      | 1, hv => exact hv
    | 1, hz => simp [hcells] at hz; subst hz; match k, hv with
      | 0, hv => exact hv
      | 1, hv => exact hv
  · have f7 : (i.op == 7) = false := beq_eq_false_iff_ne.2 h7
    by_cases h9 : i.op = 9
    · have HK : Hid (hooks i = [(i.bed, i.at_)]) := by unfold Hid hooks; rw [if_neg h7, if_pos h9]
      go_enter Try.func64, Try.ntmps64
      go_wp2
      go_ret
      refine ⟨some ⟨w.heap.size + 1, 0, none⟩, 1, by rw [HK.out]; rfl, ?_, ((Below.refl _ _).alloc (Nat.le_refl _) _).alloc (by simp) _⟩
      rw [HK.out]
      refine SlS.more (SlS.new (b := w.heap.size + 1) (w.alloc _) _ _ (by simp) fun j c hz k v hv => ?_) (by simp)
      match j, hz with
      | 0, hz => simp [hcells] at hz; subst hz; match k, hv with
        | 0, hv => exact hv
        | 1, hv => exact hv
    · have f9 : (i.op == 9) = false := beq_eq_false_iff_ne.2 h9
      have HK : Hid (hooks i = []) := by unfold Hid hooks; rw [if_neg h7, if_neg h9]
      clear h7 h9
      go_enter Try.func64, Try.ntmps64
      go_wp2
      go_ret
      exact ⟨none, 0, by rw [HK.out]; rfl, by rw [HK.out]; exact SlS.nil, (Below.refl _ _).alloc (Nat.le_refl _) _⟩

theorem cell_lt {w : World} {b o : Nat} {v : Value} (h : w.cell? ⟨b, o, none⟩ = some v) : b < w.heap.size := by
  unfold World.cell? at h
  cases ho : w.heap[b]? with
  | none => simp [ho] at h
  | some o => exact (Array.getElem?_eq_some_iff.1 ho).1
theorem grown_cell {w w' : World} {mb : Nat} (h : w.grownBy w' (some mb)) {b o : Nat} {v : Value} (hne : b ≠ mb) (hc : w.cell? ⟨b, o, none⟩ = some v) : w'.cell? ⟨b, o, none⟩ = some v := by
  have := h.block b (cell_lt hc) (by simpa using hne)
  simp only [World.cell?] at hc ⊢
  rw [this]; exact hc
theorem grown_refl (w : World) (r : Option Nat) : w.grownBy w r := ⟨rfl, rfl, rfl, Nat.le_refl _, fun _ _ _ => rfl⟩
theorem grown_drew (w : World) (r : Option Nat) : w.grownBy w.drew r := ⟨rfl, rfl, rfl, Nat.le_refl _, fun _ _ _ => rfl⟩
theorem HookSet.ne {w : World} {mb n : Nat} {U : List Hook} (h : HookSet w mb n U) {b o : Nat} {v : Value} (hc : w.cell? ⟨b, o, none⟩ = some v) : b ≠ mb := by
  rintro rfl
  obtain ⟨D, ⟨es, clock, hh, r⟩, _⟩ := h
  simp [World.cell?, hh] at hc

set_option maxHeartbeats 2000000 in
theorem use_any (i : Ins) (hi : i.fit) (pb mb n : Nat) (U : List Hook) (w : World) (hp : w.cell? ⟨pb, 15, none⟩ = some (.map (some mb))) (hset : HookSet w mb n U) (hn : n + 2 < maxLen) :
    Calls Try.prog 60 #[.pointer (some ⟨pb, 0, none⟩), i.val] w fun e w' => e = .returned (.tuple #[]) ∧ HookSet w' mb (n + (hooks i).length) ((hooks i).reverse ++ U) ∧ w.grownBy w' (some mb) := by
  have hne := hset.ne hp
  have hcall := Lib.hid (needles_any i hi)
  have hok := Lib.hid (hooks_ok hi)
  clear hi
  go_enter Try.func60, Try.ntmps60
  go_wp2_with (go_at_call 64; refine (hcall.out _).mono ?_; rintro e w1 ⟨A, c, rfl, hs, hb1⟩)
  have hs1 : HookSet w1 mb n U := (hset.below ((Below.refl _ w).alloc (Nat.le_refl _) _) hset.lt).below hb1 (by have := hset.lt; simp; omega)
  have hp1 : w1.cell? ⟨pb, 15, none⟩ = some (.map (some mb)) := (bcell hb1 (by have := cell_lt hp; simp; omega) _).trans ((bcell ((Below.refl _ w).alloc (Nat.le_refl _) _) (cell_lt hp) _).trans hp)
  clear hset hp
  go_loopw [9] (fun i9 wr => ∃ k : Nat, k ≤ (hooks i).length ∧ i9 = .int .i64 k ∧ HookSet wr mb (n + k) (((hooks i).take k).reverse ++ U) ∧ w1.grownBy wr (some mb)) (fun i9 _ => (hooks i).length - (intOf i9).toNat)
  case atStart => exact ⟨0, Nat.zero_le _, rfl, hs1, grown_refl _ _⟩
  case round =>
    obtain ⟨k, hk, rfl, hsr, hg⟩ := hrel
    by_cases hlt : k < (hooks i).length
    · obtain ⟨b, off, u, rfl, hB, hu, hc0, hc1⟩ := hs.at_ hlt
      have hpr : wr.cell? ⟨pb, 15, none⟩ = some (.map (some mb)) := grown_cell hg hne hp1
      have hpl := cell_lt hpr
      have hpa := fun o => (bcell ((Below.refl _ wr).alloc (Nat.le_refl _) o) hpl 15).trans hpr
      have d0 := grown_cell hg (hs1.ne hc0) hc0
      have d1 := grown_cell hg (hs1.ne hc0) hc1
      have hsa := fun o => hsr.kept (World.grownBy_alloc wr o none) (by simp)
      have hoku := hok.out u (List.mem_of_getElem? hu)
      have hl2 : (hooks i).length ≤ 2 := hooks_len i
      have HU := Lib.hid hu
      clear hc0 hc1 hp1 hs hu
      obtain ⟨w2, hput, hs2, ht2⟩ := HookSet.put (w := (wr.alloc (.cells #[.int .u8 u.1, .int .i64 u.2] 100)).drew) (hsa _) hoku (by omega)
      have HS2 := Lib.hid hs2
      have HT2 := Lib.hid ht2.grown
      clear hs2 ht2
      go_wp2
      go_region
      go_wp2
      go_roundw
      case rel =>
        refine ⟨k + 1, by omega, by go_num, ?_, ?_⟩
        · have e : (hooks i).take (k + 1) = (hooks i).take k ++ [u] := by rw [List.take_add_one, HU.out]; rfl
          rw [e, List.reverse_append]
          exact HS2.out
        · exact hg.trans (((World.grownBy_alloc wr (.cells #[.int .u8 u.1, .int .i64 u.2] 100) _).trans (grown_drew _ _)).trans HT2.out)
      case measure => simp [intOf]; omega
    · obtain rfl : k = (hooks i).length := by omega
      rw [List.take_length] at hsr
      clear hs
      go_wp2
      refine bodyPost_end (results_none rfl _ _ _) rfl ?_
      exact ⟨rfl, hsr, (((World.grownBy_alloc w _ _).trans ⟨hb1.os, hb1.tape, hb1.output, hb1.size, fun b hb _ => hb1.block b hb⟩).trans hg)⟩
end Go.Proofs.Ytbnddpknejgmhaa
