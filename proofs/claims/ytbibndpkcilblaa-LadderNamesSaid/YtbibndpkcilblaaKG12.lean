/- Layer 31: plain charts. Layer 26: Clone of stitches. Layer 26: Face of a row. slices.Backward over stitches. -/
import Derived.Test.YtbibndpkcilblaaKG11
import Derived.Test.YtbibndpkcilblaaKG1
namespace Go.Proofs.Ytbibndpkcilblaa
open Go.RowKit Go.Shelf
set_option maxRecDepth 100000

def oddS (s : Stc) : Bool := decide (s.kind ≠ 1 ∧ s.kind ≠ 8)
def plainB (start : Int) (p : List RowC) : Bool := if p.any (fun r => r.2.any oddS) then false else decide (start ≤ 101)
end Go.Proofs.Ytbibndpkcilblaa
namespace Go.Proofs.Ytbibndpkcilblaa
open Go.RowKit Go.Shelf
set_option maxRecDepth 100000

theorem info_stc : (Try.prog.info? 56).map (fun i => (i.zero, i.size, i.bytes)) = some (some (.agg #[.int .u8 0, .bool false, .int .i64 0, .int .i64 0]), 4, 24) := by kernel_rfl
theorem cells4 (l : List Stc) : ∀ cs ∈ l.map Stc.cells, cs.length = 4 := by
  intro cs h
  obtain ⟨s, _, rfl⟩ := List.mem_map.1 h
  rfl
theorem one4 (l : List Stc) : ∀ u ∈ (l.map Stc.cells).flatten, u.oneCell' = true := by
  intro u hu
  obtain ⟨cs, hcs, hu⟩ := List.mem_flatten.1 hu
  obtain ⟨s, _, rfl⟩ := List.mem_map.1 hcs
  simp only [Stc.cells, List.mem_cons, List.not_mem_nil, or_false] at hu
  rcases hu with rfl | rfl | rfl | rfl <;> rfl
theorem eql_some (ad : Addr) (n c : Nat) (W : World) : (binOp .eql 57 (.slice (some ad) n c) (.slice none 0 0)).run Try.prog W = .ok (.bool false) W := by kernel_rfl
theorem eql_none (n c : Nat) (W : World) : (binOp .eql 57 (.slice none n c) (.slice none 0 0)).run Try.prog W = .ok (.bool true) W := by kernel_rfl
def stcOut (l : List Stc) (w : World) (e : Ending) (w' : World) : Prop := ∃ A c, e = .returned (.slice A l.length c) ∧ SlT w' w'.heap.size A l ∧ Below w.heap.size w w' ∧ (l ≠ [] → ∀ ad, A = some ad → w.heap.size ≤ ad.block)
set_option maxHeartbeats 1000000 in
theorem clone_any (A : Option Addr) (c : Nat) (l : List Stc) (hn : l.length ≤ 1000000) (w : World) (hs : SlT w w.heap.size A l) :
    Calls Try.prog 77 #[.slice A l.length c] w fun e w' => stcOut l w e w' := by
  obtain ⟨i0, hi, hz0, hz1, hz2⟩ := info_parts info_stc
  cases A with
  | none =>
    have hl : l = [] := by
      cases l with
      | nil => rfl
      | cons a t =>
        obtain ⟨b, off, e, _⟩ := hs (by simp)
        cases e
    subst hl
    have HO : Hid (∀ A c, stcOut [] w (.returned (.slice A 0 c)) w) := fun A c => ⟨A, c, rfl, SlT.nil, Below.refl _ _, fun h => absurd rfl h⟩
    clear hs
    rw [List.length_nil]
    have hq := eql_none 0 c
    go_enter Try.func77, Try.ntmps77
    go_wp2
    go_ret
    exact HO.out _ _
  | some ad =>
    have hnews : ∀ j u, (l.map Stc.cells).flatten[j]? = some u → (w.alloc (.cells #[] 56)).cell? (ad.add j) = some u := by
      intro j u hu
      have hne : l.map Stc.cells ≠ [] := fun e => by rw [e] at hu; simp at hu
      obtain ⟨b, off, e, hB, _⟩ := hs hne
      cases e
      have h1 := SlS.flat (cells4 l) hs j u hu
      exact (World.cell?_alloc_lt w _ _ (by have e : ((⟨b, off, none⟩ : Addr).add j).block = b := by unfold Addr.add; split <;> rfl
                                            rw [e]; exact hB)).trans h1
    have HN := Lib.hid hnews
    have hlen : (l.map Stc.cells).flatten.length = l.length * 4 := by rw [flat_len (cells4 l), List.length_map]
    have HL := Lib.hid hlen
    clear hs hnews hlen
    have hq := eql_some ad l.length c
    go_enter Try.func77, Try.ntmps77
    go_wp2_with (at_builtin; refine wpList_append_own _ rfl _ _ 57 rfl w.heap.size 56 i0 (.agg #[.int .u8 0, .bool false, .int .i64 0, .int .i64 0]) 4 24 Try.underlying57 hi hz0 hz1 hz2 rfl (by decide) _ 0 [] rfl (World.ownsRow_lit w #[] 0 (Nat.le_refl _) (by decide) rfl) ad l.length c (l.map Stc.cells).flatten rfl HL.out HN.out (one4 l) (by unfold maxLen; omega) (by omega) (by simp) ?_; intro v' w1 hown' hgrow _; have HOw := Lib.hid hown'; have HG := Lib.hid hgrow; clear hown' hgrow)
    have ho := HOw.out
    rw [Nat.zero_add, List.nil_append] at ho
    obtain ⟨a2, c2, rfl, _⟩ := own_slice ho
    have hT : SlT w1 w1.heap.size a2 l := SlS.of_own (cells4 l) (by rw [List.length_map]) ho
    have hB : Below w.heap.size w w1 := ((Below.refl _ w).alloc (Nat.le_refl _) _).grown HG.out (by simp) (fun k e => by cases e; exact Nat.le_refl _)
    have HO := Lib.hid (show stcOut l w (.returned (.slice a2 l.length c2)) w1 from ⟨a2, c2, rfl, hT, hB, fun _ ad had => (ho.lt ad.block (by rw [had]; rfl)).1⟩)
    clear ho hT hB HOw HG
    go_ret
    exact HO.out
end Go.Proofs.Ytbibndpkcilblaa
namespace Go.Proofs.Ytbibndpkcilblaa
open Go.RowKit Go.Shelf
set_option maxRecDepth 100000

/-- The other side of a stitch. -/
def otherS (s : Stc) : Stc := ⟨s.kind, (formI s.kind).sided && !s.purl, if 0 < (formI s.kind).b1 then s.b else s.a, if 0 < (formI s.kind).b1 then s.a else s.b⟩
def turnedL (l : List Stc) : List Stc := (l.map otherS).reverse
def faceL (r : RowC) : List Stc := if r.1 then turnedL r.2 else r.2
def stcOut2 (l : List Stc) (w : World) (e : Ending) (w' : World) : Prop := ∃ A c, e = .returned (.tuple #[.slice A l.length c, .int .i64 0]) ∧ SlT w' w'.heap.size A l ∧ Below w.heap.size w w' ∧ (l ≠ [] → ∀ ad, A = some ad → w.heap.size ≤ ad.block)
/-- What Turn does. -/
def TurnC : Prop := ∀ (A : Option Addr) (c : Nat) (l : List Stc) (w : World), (∀ s ∈ l, s.wf) → allE l = 0 → SlT w w.heap.size A l →
  Calls Try.prog 76 #[.slice A l.length c] w fun e w' => stcOut2 (turnedL l) w e w'
theorem rowE_zero {n : Int} {r : List Stc} (h : rowE n r = 0) : allE r = 0 ∧ usesE r = n := by
  unfold rowE at h
  by_cases h1 : allE r = 0
  · rw [if_neg (by simpa using h1)] at h
    by_cases h2 : usesE r = n
    · exact ⟨h1, h2⟩
    · rw [if_pos h2] at h; cases h
  · rw [if_pos h1] at h; exact absurd h h1
theorem err_rows : ∀ {n : Int} {p : List RowC}, errR n p = 0 → ∀ r ∈ p, allE r.2 = 0
  | _, [], _, r, hr => by cases hr
  | n, x :: t, h, r, hr => by
    simp only [errR] at h
    by_cases h1 : rowE n x.2 = 0
    · rw [if_pos h1] at h
      rcases List.mem_cons.1 hr with rfl | hr
      · exact (rowE_zero h1).1
      · exact err_rows h r hr
    · rw [if_neg h1] at h; exact absurd h h1
theorem chart_zero {start : Int} {p : List RowC} (h : chartE start p = 0) : p.length ≤ 100 ∧ (0 ≤ start ∧ start ≤ 200) ∧ errR start p = 0 := by
  unfold chartE at h
  by_cases h1 : 100 < p.length
  · rw [if_pos h1] at h; cases h
  rw [if_neg h1] at h
  by_cases h2 : start < 0 ∨ 200 < start
  · rw [if_pos h2] at h; cases h
  rw [if_neg h2] at h
  exact ⟨by omega, by omega, h⟩

theorem rows_at {w : World} {B : Nat} {A : Option Addr} {p : List RowC} (h : SlC w B A p) {k : Nat} {r : RowC} (hr : p[k]? = some r) :
    ∃ b off A' C', A = some ⟨b, off, none⟩ ∧ b < B ∧ w.cell? ⟨b, off + k * 2, none⟩ = some (.bool r.1) ∧ w.cell? ⟨b, off + k * 2 + 1, none⟩ = some (.slice A' r.2.length C') ∧ r.2.length ≤ C' ∧ SlT w B A' r.2 := by
  obtain ⟨b, off, e, hB, hc⟩ := h (fun e => by subst e; simp at hr)
  obtain ⟨A', C', h0, h1, h2, h3⟩ := hc k r hr
  exact ⟨b, off, A', C', e, hB, h0, h1, h2, h3⟩
set_option maxHeartbeats 2000000 in
theorem face_any (start : Int) (A : Option Addr) (c : Nat) (p : List RowC) (hw : RowsWf p) (he : chartE start p = 0) (k : Nat) (r : RowC) (hr : p[k]? = some r) (hT : r.1 = false ∨ TurnC) (w : World) (hs : SlC w w.heap.size A p) :
    Calls Try.prog 66 #[.agg #[.int .i64 start, .slice A p.length c], .int .i64 k] w fun e w' => stcOut2 (faceL r) w e w' := by
  have hz := chart_zero he
  have hkl : k < p.length := (List.getElem?_eq_some_iff.1 hr).1
  have hmem := List.mem_of_getElem? hr
  have har := err_rows hz.2.2 r hmem
  have hwr := hw r hmem
  have hpl := hz.1
  have hbw0 : Below w.heap.size w (w.alloc (.cells #[.int .i64 start, .slice A p.length c] 24)) := (Below.refl _ w).alloc (Nat.le_refl _) _
  have HCk := Lib.hid (ccheck_any start A c p hw _ ((hs.below hbw0).more hbw0.size))
  rw [he] at HCk
  obtain ⟨b, off, A', C', rfl, hB, hcr0, hcr1, hC, hsi⟩ := rows_at hs hr
  have hx0 := cell_new (w1 := w.alloc (.cells #[.int .i64 start, .slice (some ⟨b, off, none⟩) p.length c] 24)) (b := w.heap.size) (o := 0) rfl rfl rfl
  have hx1 := cell_new (w1 := w.alloc (.cells #[.int .i64 start, .slice (some ⟨b, off, none⟩) p.length c] 24)) (b := w.heap.size) (o := 1) rfl rfl rfl
  have HX := Lib.hid (fun (w1 : World) (hb : Below (w.heap.size + 1) (w.alloc (.cells #[.int .i64 start, .slice (some ⟨b, off, none⟩) p.length c] 24)) w1) => (show w1.cell? ⟨w.heap.size, 0, none⟩ = some (.int .i64 start) ∧ w1.cell? ⟨w.heap.size, 1, none⟩ = some (.slice (some ⟨b, off, none⟩) p.length c) ∧ w1.cell? ⟨b, off + k * 2, none⟩ = some (.bool r.1) ∧ w1.cell? ⟨b, off + k * 2 + 1, none⟩ = some (.slice A' r.2.length C') from
    ⟨(bcell hb (by omega) _).trans hx0, (bcell hb (by omega) _).trans hx1, (bcell (hbw0.trans (hb.mono (by omega))) hB _).trans hcr0, (bcell (hbw0.trans (hb.mono (by omega))) hB _).trans hcr1⟩))
  have HB0 := Lib.hid hbw0
  have HSi := Lib.hid hsi
  have HA := Lib.hid har
  have HWr := Lib.hid hwr
  clear hx0 hx1 hcr0 hcr1 hsi hs hw hz hbw0 he hr har hwr hmem
  cases hq : r.1 with
  | false =>
    have HF : Hid (faceL r = r.2) := by unfold Hid faceL; rw [hq]; rfl
    have HCl := Lib.hid (fun (w1 : World) (hb : Below w.heap.size w w1) => clone_any A' C' r.2 (by have := (all_zero HA.out).1; omega) w1 ((HSi.out.below hb).more hb.size))
    rw [hq] at HX
    clear hq hT
    go_enter Try.func66, Try.ntmps66
    go_wp2_with (first
      | (go_at_call 65; refine HCk.out.mono ?_; rintro e w1 ⟨rfl, hb1⟩
         obtain ⟨c0, c1, c2, c3⟩ := HX.out w1 (hb1.mono (by simp))
         have hbw1 := HB0.out.trans (hb1.mono (by simp)))
      | (go_at_call 77; refine (HCl.out _ hbw1).mono ?_; rintro e w2 ⟨a2, c2', rfl, hT2, hb2, hf2⟩))
    go_ret2
    exact ⟨a2, c2', by rw [HF.out]; rfl, by rw [HF.out]; exact hT2, hbw1.trans (hb2.mono hbw1.size), fun hne ad had => Nat.le_trans hbw1.size (hf2 (by rw [← HF.out]; exact hne) ad had)⟩
  | true =>
    have HF : Hid (faceL r = turnedL r.2) := by unfold Hid faceL; rw [hq]; rfl
    have hTC : TurnC := by
      rcases hT with h | h
      · rw [hq] at h; cases h
      · exact h
    have HCl := Lib.hid (fun (w1 : World) (hb : Below w.heap.size w w1) => hTC A' C' r.2 w1 HWr.out HA.out ((HSi.out.below hb).more hb.size))
    rw [hq] at HX
    clear hq hT hTC
    go_enter Try.func66, Try.ntmps66
    go_wp2_with (first
      | (go_at_call 65; refine HCk.out.mono ?_; rintro e w1 ⟨rfl, hb1⟩
         obtain ⟨c0, c1, c2, c3⟩ := HX.out w1 (hb1.mono (by simp))
         have hbw1 := HB0.out.trans (hb1.mono (by simp)))
      | (go_at_call 76; refine (HCl.out _ hbw1).mono ?_; rintro e w2 ⟨a2, c2', rfl, hT2, hb2, hf2⟩))
    go_ret2
    exact ⟨a2, c2', by rw [HF.out]; rfl, by rw [HF.out]; exact hT2, hbw1.trans (hb2.mono hbw1.size), fun hne ad had => Nat.le_trans hbw1.size (hf2 (by rw [← HF.out]; exact hne) ad had)⟩
end Go.Proofs.Ytbibndpkcilblaa
namespace Go.Proofs.Ytbibndpkcilblaa
open Go.RowKit Go.Shelf
attribute [local go_sem] Oper.semAt_some
set_option maxRecDepth 100000

structure Bk where
  i : Int
  s : Stc
  h : s.wf
def encB (x : Bk) : Array Value := #[.int .i64 x.i, x.s.val]
def stc0 : Stc := ⟨0, false, 0, 0⟩
theorem getD_wf {l : List Stc} (hw : ∀ s ∈ l, s.wf) (m : Nat) : (l.getD m stc0).wf := by
  rw [List.getD]
  cases h : l[m]? with
  | none => exact ⟨by decide, by decide⟩
  | some s => exact hw s (List.mem_of_getElem? h)
def backs (l : List Stc) (hw : ∀ s ∈ l, s.wf) : Nat → List Bk
  | 0 => []
  | m + 1 => ⟨m, l.getD m stc0, getD_wf hw m⟩ :: backs l hw m
theorem backs_len (l : List Stc) (hw : ∀ s ∈ l, s.wf) : ∀ m, (backs l hw m).length = m
  | 0 => rfl
  | m + 1 => by simp only [backs, List.length_cons]; rw [backs_len l hw m]
theorem backs_map (l : List Stc) (hw : ∀ s ∈ l, s.wf) : ∀ m, m ≤ l.length → (backs l hw m).map (·.s) = (l.take m).reverse
  | 0, _ => by simp [backs]
  | m + 1, h => by
    have e : l.take (m + 1) = l.take m ++ [l.getD m stc0] := by
      rw [List.take_succ_eq_append_getElem (by omega), List.getD, List.getElem?_eq_getElem (by omega)]; rfl
    simp only [backs, List.map_cons]
    rw [backs_map l hw m (by omega), e]; simp
theorem backward_any (A : Option Addr) (n c : Nat) (w : World) :
    Calls Try.prog 98 #[.slice A n c] w fun e w' => e = .returned (.func (.func 111) #[] #[.pointer (some ⟨w.heap.size, 0, none⟩)]) ∧ w.alloc (.cells #[.slice A n c] 57) = w' := by
  have hmf : ∀ (fn : Fn) (first cap : Array Value) (w : World), (Instr.makeFunc fn first cap).run Try.prog w = .ok (.func fn first cap) w := fun _ _ _ _ => rfl
  go_enter Try.func98, Try.ntmps98
  go_wp2
  go_ret
  exact ⟨rfl, rfl⟩
/-- The cells below a block, and those of block Bs, lie as they lay. -/
def KP (n₀ Bs : Nat) (W W' : World) : Prop := W.heap.size ≤ W'.heap.size ∧ ∀ k cs t f, (k < n₀ ∨ k = Bs) → W.heap[k]? = some (.cells cs t f) → W'.heap[k]? = some (.cells cs t f)
theorem KP.refl (n₀ Bs : Nat) (W : World) : KP n₀ Bs W W := ⟨Nat.le_refl _, fun _ _ _ _ _ h => h⟩
theorem KP.trans {n₀ Bs : Nat} {A B C : World} (h : KP n₀ Bs A B) (k : KP n₀ Bs B C) : KP n₀ Bs A C := ⟨Nat.le_trans h.1 k.1, fun i cs t f hi hc => k.2 i cs t f hi (h.2 i cs t f hi hc)⟩
theorem KP.of_below {n₀ Bs : Nat} {A B : World} (h : Below A.heap.size A B) : KP n₀ Bs A B := ⟨h.size, fun i _ _ _ _ hc => (h.block i (Array.getElem?_eq_some_iff.1 hc).1).trans hc⟩
theorem KP.of_grown {n₀ Bs : Nat} {A B : World} {row : Option Nat} (h : A.grownBy B row) (hr : ∀ r, row = some r → n₀ ≤ r ∧ r ≠ Bs) : KP n₀ Bs A B := ⟨h.size, fun i _ _ _ hi hc => (h.block i (Array.getElem?_eq_some_iff.1 hc).1 (fun e => by
  obtain ⟨h1, h2⟩ := hr i e.symm
  omega)).trans hc⟩
theorem KP.put {n₀ Bs : Nat} (W : World) (l : Nat) (o o' : Obj) (h : W.heap[l]? = some o) (ho : o.isCells = false) : KP n₀ Bs W (W.putObj l o') := by
  refine ⟨by simp, fun i cs t f _ hc => ?_⟩
  have hne : i ≠ l := by
    rintro rfl
    rw [hc] at h; cases h; cases ho
  rw [World.putObj_heap_other hne]; exact hc
theorem KP.cell {n₀ Bs : Nat} {A B : World} (h : KP n₀ Bs A B) {b o : Nat} {v : Value} (hb : b < n₀ ∨ b = Bs) (hc : A.cell? ⟨b, o, none⟩ = some v) : B.cell? ⟨b, o, none⟩ = some v := by
  unfold World.cell? at hc ⊢
  cases hk : A.heap[b]? with
  | none => simp [hk] at hc
  | some ob =>
    cases ob with
    | cells cs t f => rw [h.2 b cs t f hb hk]; rw [hk] at hc; exact hc
    | _ => simp [hk] at hc
theorem KP.slS {sz n₀ Bs : Nat} {A B : World} (h : KP n₀ Bs A B) {a : Option Addr} {zs : List (List Value)} (hs : SlS sz A n₀ a zs) : SlS sz B n₀ a zs := fun hz => by
  obtain ⟨b, off, e, hB, hc⟩ := hs hz
  exact ⟨b, off, e, hB, fun j cs hj i v hv => h.cell (Or.inl hB) (hc j cs hj i v hv)⟩
set_option maxHeartbeats 4000000 in
theorem backward_stops (n : Nat) (hn : 1 ≤ n) (Bs n₀ : Nat) (A : Option Addr) (c : Nat) (p : List Stc) (hw : ∀ s ∈ p, s.wf) (hpl : p.length ≤ 1000) (w : World) (hBs : Bs < w.heap.size) (hn0 : n₀ ≤ w.heap.size)
    (hc0 : w.cell? ⟨Bs, 0, none⟩ = some (.slice A p.length c)) (hs : SlT w n₀ A p) :
    SeqStopsK Fence.wide n Try.prog 111 #[.pointer (some ⟨Bs, 0, none⟩)] encB (KP n₀ Bs) (fun xs => xs = backs p hw p.length) (fun _ => True) p.length w := by
  intro l J Jx W hW hJ hJx hY h0
  have hcW0 := (hW.cell (p := ⟨Bs, 0, none⟩) hBs).trans hc0
  have hsW : SlT W n₀ A p := hs.below (hW.mono (by omega))
  clear hc0 hs hW hBs
  have HY := Lib.hid hY
  have HJ := Lib.hid hJ
  clear hY hJ hJx
  refine callsIn_of_wp Try.func111 rfl trivial ?_ rfl
  simp only [Try.ntmps111, List.size_toArray, List.length_cons, List.length_nil, Nat.reduceAdd, Nat.reduceSub, Array.replicate_succ, Array.replicate_zero, List.push_toArray, List.append_toArray, List.nil_append, List.cons_append]
  gi_wp2
  gi_loopw [3] (fun s3 wr => ∃ (m : Nat) (pre : List Bk), m ≤ p.length ∧ s3 = .int .i64 ((m : Int) - 1) ∧ J pre wr ∧ Hid (backs p hw p.length = pre ++ backs p hw m) ∧ SlT wr n₀ A p ∧ W.heap.size ≤ wr.heap.size ∧ wr.cell? ⟨Bs, 0, none⟩ = some (.slice A p.length c)) (fun s3 _ => (intOf s3 + 1).toNat)
  case atStart => exact ⟨p.length, [], Nat.le_refl _, rfl, h0, rfl, hsW, Nat.le_refl _, hcW0⟩
  case round =>
    obtain ⟨m, pre, hm, rfl, hJs, HI, hsr, hzr, hcb⟩ := hrel
    clear hcW0 hsW h0
    cases m with
    | zero =>
      have HI3 : Hid (backs p hw p.length = pre) := by unfold Hid; rw [HI.out]; simp [backs]
      have HJ3 := Lib.hid hJs
      clear hJs hsr HI
      gi_wp2
      go_end0
      exact ⟨⟨_, rfl⟩, .inl ⟨_, HI3.out.symm, HJ3.out⟩⟩
    | succ m =>
      have em : (((m + 1 : Nat) : Int) - 1) = (m : Int) := by omega
      rw [em]
      obtain ⟨b, off, s, rfl, hB, hr, hcs⟩ := hsr.at_ (k := m) (by omega)
      obtain ⟨c0, c1, c2, c3⟩ := hcs
      obtain ⟨x, hxe⟩ : ∃ x : Bk, x = ⟨m, p.getD m stc0, getD_wf hw m⟩ := ⟨_, rfl⟩
      have hxs : s = x.s := by
        have e : p.getD m stc0 = s := by rw [List.getD, hr]; rfl
        rw [hxe]; exact e.symm
      have hxi : x.i = (m : Int) := by rw [hxe]
      have HI2 : Hid (backs p hw p.length = (pre ++ [x]) ++ backs p hw m) := by
        unfold Hid; rw [HI.out, List.append_assoc, hxe]; rfl
      have hlen : pre.length < p.length := by
        have := congrArg List.length HI2.out
        rw [backs_len, List.length_append, List.length_append, backs_len] at this
        simp at this; omega
      obtain ⟨fn, tmps, assign, body, hy, hR⟩ := HY.out _ x _ hJs hlen
      unfold encB Stc.val at hy
      rw [hxi] at hy
      rw [hxs] at c0 c1 c2 c3
      clear hxe hxs hxi
      have HS := Lib.hid hsr
      have HCb := Lib.hid hcb
      have hml : (m : Int) < (p.length : Int) := by omega
      clear hJs hsr HI hr
      gi_wp2
      refine hR.mono ?_
      rintro e W3 (⟨rfl, hJ3, hk3⟩ | ⟨rfl, hJx3⟩)
      · have HJ3 := Lib.hid hJ3
        have HS3 := Lib.hid (KP.slS hk3 HS.out)
        have HC3 := Lib.hid (hk3.cell (Or.inr rfl) HCb.out)
        have hz3 := hk3.1
        clear hk3 hJ3 c0 c1 c2 c3 hcb
        gi_wp2
        go_roundw
        case rel => exact ⟨m, pre ++ [x], by omega, rfl, HJ3.out, HI2, HS3.out, by omega, HC3.out⟩
        case measure => simp [intOf]
      · gi_wp2
        refine bodyPost_ret (results_none rfl _ _ _) rfl ?_
        exact ⟨⟨_, rfl⟩, .inr ⟨_, trivial, hJx3⟩⟩
end Go.Proofs.Ytbibndpkcilblaa
