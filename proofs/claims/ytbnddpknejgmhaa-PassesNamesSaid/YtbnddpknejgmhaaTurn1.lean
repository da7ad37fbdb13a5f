/- slices.Backward over stitches. -/
import Derived.Test.YtbnddpknejgmhaaFace2
namespace Go.Proofs.Ytbnddpknejgmhaa
open Go.RowKit Go.Shelf
attribute [local go_sem] Oper.semAt_some
set_option maxRecDepth 100000

structure Bk where
  i : Int
  s : Stc
  h : s.wf
def encB (x : Bk) : Array Value := #[.int .i64 x.i, x.s.val]
def stc0 : Stc := ⟨0, false, 0, 0⟩
theorem getD_wf {l : List Stc} (hw : ∀ s ∈ l, s.wf) (m : Nat) : (l.getD m stc0).wf := by
  rw [List.getD]
  cases h : l[m]? with
  | none => exact ⟨by decide, by decide⟩
  | some s => exact hw s (List.mem_of_getElem? h)
def backs (l : List Stc) (hw : ∀ s ∈ l, s.wf) : Nat → List Bk
  | 0 => []
  | m + 1 => ⟨m, l.getD m stc0, getD_wf hw m⟩ :: backs l hw m
theorem backs_len (l : List Stc) (hw : ∀ s ∈ l, s.wf) : ∀ m, (backs l hw m).length = m
  | 0 => rfl
  | m + 1 => by simp only [backs, List.length_cons]; rw [backs_len l hw m]
theorem backs_map (l : List Stc) (hw : ∀ s ∈ l, s.wf) : ∀ m, m ≤ l.length → (backs l hw m).map (·.s) = (l.take m).reverse
  | 0, _ => by simp [backs]
  | m + 1, h => by
    have e : l.take (m + 1) = l.take m ++ [l.getD m stc0] := by
      rw [List.take_succ_eq_append_getElem (by omega), List.getD, List.getElem?_eq_getElem (by omega)]; rfl
    simp only [backs, List.map_cons]
    rw [backs_map l hw m (by omega), e]; simp
theorem backward_any (A : Option Addr) (n c : Nat) (w : World) :
    Calls Try.prog 74 #[.slice A n c] w fun e w' => e = .returned (.func (.func 84) #[] #[.pointer (some ⟨w.heap.size, 0, none⟩)]) ∧ w.alloc (.cells #[.slice A n c] 57) = w' := by
  have hmf : ∀ (fn : Fn) (first cap : Array Value) (w : World), (Instr.makeFunc fn first cap).run Try.prog w = .ok (.func fn first cap) w := fun _ _ _ _ => rfl
  go_enter Try.func74, Try.ntmps74
  go_wp2
  go_ret
  exact ⟨rfl, rfl⟩
/-- The cells below a block, and those of block Bs, lie as they lay. -/
def KP (n₀ Bs : Nat) (W W' : World) : Prop := W.heap.size ≤ W'.heap.size ∧ ∀ k cs t f, (k < n₀ ∨ k = Bs) → W.heap[k]? = some (.cells cs t f) → W'.heap[k]? = some (.cells cs t f)
theorem KP.refl (n₀ Bs : Nat) (W : World) : KP n₀ Bs W W := ⟨Nat.le_refl _, fun _ _ _ _ _ h => h⟩
theorem KP.trans {n₀ Bs : Nat} {A B C : World} (h : KP n₀ Bs A B) (k : KP n₀ Bs B C) : KP n₀ Bs A C := ⟨Nat.le_trans h.1 k.1, fun i cs t f hi hc => k.2 i cs t f hi (h.2 i cs t f hi hc)⟩
theorem KP.of_below {n₀ Bs : Nat} {A B : World} (h : Below A.heap.size A B) : KP n₀ Bs A B := ⟨h.size, fun i _ _ _ _ hc => (h.block i (Array.getElem?_eq_some_iff.1 hc).1).trans hc⟩
theorem KP.of_grown {n₀ Bs : Nat} {A B : World} {row : Option Nat} (h : A.grownBy B row) (hr : ∀ r, row = some r → n₀ ≤ r ∧ r ≠ Bs) : KP n₀ Bs A B := ⟨h.size, fun i _ _ _ hi hc => (h.block i (Array.getElem?_eq_some_iff.1 hc).1 (fun e => by
  obtain ⟨h1, h2⟩ := hr i e.symm
  omega)).trans hc⟩
theorem KP.put {n₀ Bs : Nat} (W : World) (l : Nat) (o o' : Obj) (h : W.heap[l]? = some o) (ho : o.isCells = false) : KP n₀ Bs W (W.putObj l o') := by
  refine ⟨by simp, fun i cs t f _ hc => ?_⟩
  have hne : i ≠ l := by
    rintro rfl
    rw [hc] at h; cases h; cases ho
  rw [World.putObj_heap_other hne]; exact hc
theorem KP.cell {n₀ Bs : Nat} {A B : World} (h : KP n₀ Bs A B) {b o : Nat} {v : Value} (hb : b < n₀ ∨ b = Bs) (hc : A.cell? ⟨b, o, none⟩ = some v) : B.cell? ⟨b, o, none⟩ = some v := by
  unfold World.cell? at hc ⊢
  cases hk : A.heap[b]? with
  | none => simp [hk] at hc
  | some ob =>
    cases ob with
    | cells cs t f => rw [h.2 b cs t f hb hk]; rw [hk] at hc; exact hc
    | _ => simp [hk] at hc
theorem KP.slS {sz n₀ Bs : Nat} {A B : World} (h : KP n₀ Bs A B) {a : Option Addr} {zs : List (List Value)} (hs : SlS sz A n₀ a zs) : SlS sz B n₀ a zs := fun hz => by
  obtain ⟨b, off, e, hB, hc⟩ := hs hz
  exact ⟨b, off, e, hB, fun j cs hj i v hv => h.cell (Or.inl hB) (hc j cs hj i v hv)⟩
set_option maxHeartbeats 4000000 in
theorem backward_stops (n : Nat) (hn : 1 ≤ n) (Bs n₀ : Nat) (A : Option Addr) (c : Nat) (p : List Stc) (hw : ∀ s ∈ p, s.wf) (hpl : p.length ≤ 1000) (w : World) (hBs : Bs < w.heap.size) (hn0 : n₀ ≤ w.heap.size)
    (hc0 : w.cell? ⟨Bs, 0, none⟩ = some (.slice A p.length c)) (hs : SlT w n₀ A p) :
    SeqStopsK Fence.wide n Try.prog 84 #[.pointer (some ⟨Bs, 0, none⟩)] encB (KP n₀ Bs) (fun xs => xs = backs p hw p.length) (fun _ => True) p.length w := by
  intro l J Jx W hW hJ hJx hY h0
  have hcW0 := (hW.cell (p := ⟨Bs, 0, none⟩) hBs).trans hc0
  have hsW : SlT W n₀ A p := hs.below (hW.mono (by omega))
  clear hc0 hs hW hBs
  have HY := Lib.hid hY
  have HJ := Lib.hid hJ
  clear hY hJ hJx
  refine callsIn_of_wp Try.func84 rfl trivial ?_ rfl
  simp only [Try.ntmps84, List.size_toArray, List.length_cons, List.length_nil, Nat.reduceAdd, Nat.reduceSub, Array.replicate_succ, Array.replicate_zero, List.push_toArray, List.append_toArray, List.nil_append, List.cons_append]
  gi_wp2
  gi_loopw [3] (fun s3 wr => ∃ (m : Nat) (pre : List Bk), m ≤ p.length ∧ s3 = .int .i64 ((m : Int) - 1) ∧ J pre wr ∧ Hid (backs p hw p.length = pre ++ backs p hw m) ∧ SlT wr n₀ A p ∧ W.heap.size ≤ wr.heap.size ∧ wr.cell? ⟨Bs, 0, none⟩ = some (.slice A p.length c)) (fun s3 _ => (intOf s3 + 1).toNat)
  case atStart => exact ⟨p.length, [], Nat.le_refl _, rfl, h0, rfl, hsW, Nat.le_refl _, hcW0⟩
  case round =>
    obtain ⟨m, pre, hm, rfl, hJs, HI, hsr, hzr, hcb⟩ := hrel
    clear hcW0 hsW h0
    cases m with
    | zero =>
      have HI3 : Hid (backs p hw p.length = pre) := by unfold Hid; rw [HI.out]; simp [backs]
      have HJ3 := Lib.hid hJs
      clear hJs hsr HI
      gi_wp2
      go_end0
      exact ⟨⟨_, rfl⟩, .inl ⟨_, HI3.out.symm, HJ3.out⟩⟩
    | succ m =>
      have em : (((m + 1 : Nat) : Int) - 1) = (m : Int) := by omega
      rw [em]
      obtain ⟨b, off, s, rfl, hB, hr, hcs⟩ := hsr.at_ (k := m) (by omega)
      obtain ⟨c0, c1, c2, c3⟩ := hcs
      obtain ⟨x, hxe⟩ : ∃ x : Bk, x = ⟨m, p.getD m stc0, getD_wf hw m⟩ := ⟨_, rfl⟩
      have hxs : s = x.s := by
        have e : p.getD m stc0 = s := by rw [List.getD, hr]; rfl
        rw [hxe]; exact e.symm
      have hxi : x.i = (m : Int) := by rw [hxe]
      have HI2 : Hid (backs p hw p.length = (pre ++ [x]) ++ backs p hw m) := by
        unfold Hid; rw [HI.out, List.append_assoc, hxe]; rfl
      have hlen : pre.length < p.length := by
        have := congrArg List.length HI2.out
        rw [backs_len, List.length_append, List.length_append, backs_len] at this
        simp at this; omega
      obtain ⟨fn, tmps, assign, body, hy, hR⟩ := HY.out _ x _ hJs hlen
      unfold encB Stc.val at hy
      rw [hxi] at hy
      rw [hxs] at c0 c1 c2 c3
      clear hxe hxs hxi
      have HS := Lib.hid hsr
      have HCb := Lib.hid hcb
      have hml : (m : Int) < (p.length : Int) := by omega
      clear hJs hsr HI hr
      gi_wp2
      refine hR.mono ?_
      rintro e W3 (⟨rfl, hJ3, hk3⟩ | ⟨rfl, hJx3⟩)
      · have HJ3 := Lib.hid hJ3
        have HS3 := Lib.hid (KP.slS hk3 HS.out)
        have HC3 := Lib.hid (hk3.cell (Or.inr rfl) HCb.out)
        have hz3 := hk3.1
        clear hk3 hJ3 c0 c1 c2 c3 hcb
        gi_wp2
        go_roundw
        case rel => exact ⟨m, pre ++ [x], by omega, rfl, HJ3.out, HI2, HS3.out, by omega, HC3.out⟩
        case measure => simp [intOf]
      · gi_wp2
        refine bodyPost_ret (results_none rfl _ _ _) rfl ?_
        exact ⟨⟨_, rfl⟩, .inr ⟨_, trivial, hJx3⟩⟩
end Go.Proofs.Ytbnddpknejgmhaa
