/- Layer 26: Clone of stitches. Layer 26: Face of a row. slices.Reverse at instructions, by the shelf's contract. -/
import Derived.Test.YtbnddpknejgmhaaGreatKP18
import Derived.Test.YtbnddpknejgmhaaGreatKP1
import Derived.Shelf.SlicesQ.Reverse
namespace Go.Proofs.YtbnddpknejgmhaaGreat
open Go.RowKit Go.Shelf
set_option maxRecDepth 100000

theorem info_stc : (Tryz.prog.info? 51).map (fun i => (i.zero, i.size, i.bytes)) = some (some (.agg #[.int .u8 0, .bool false, .int .i64 0, .int .i64 0]), 4, 24) := by kernel_rfl
theorem cells4 (l : List Stc) : ∀ cs ∈ l.map Stc.cells, cs.length = 4 := by
  intro cs h
  obtain ⟨s, _, rfl⟩ := List.mem_map.1 h
  rfl
theorem one4 (l : List Stc) : ∀ u ∈ (l.map Stc.cells).flatten, u.oneCell' = true := by
  intro u hu
  obtain ⟨cs, hcs, hu⟩ := List.mem_flatten.1 hu
  obtain ⟨s, _, rfl⟩ := List.mem_map.1 hcs
  simp only [Stc.cells, List.mem_cons, List.not_mem_nil, or_false] at hu
  rcases hu with rfl | rfl | rfl | rfl <;> rfl
theorem eql_some (ad : Addr) (n c : Nat) (W : World) : (binOp .eql 52 (.slice (some ad) n c) (.slice none 0 0)).run Tryz.prog W = .ok (.bool false) W := by kernel_rfl
theorem eql_none (n c : Nat) (W : World) : (binOp .eql 52 (.slice none n c) (.slice none 0 0)).run Tryz.prog W = .ok (.bool true) W := by kernel_rfl
def stcOut (l : List Stc) (w : World) (e : Ending) (w' : World) : Prop := ∃ A c, e = .returned (.slice A l.length c) ∧ SlT w' w'.heap.size A l ∧ Below w.heap.size w w' ∧ (l ≠ [] → ∀ ad, A = some ad → w.heap.size ≤ ad.block)
set_option maxHeartbeats 1000000 in
theorem clone_any (A : Option Addr) (c : Nat) (l : List Stc) (hn : l.length ≤ 1000000) (w : World) (hs : SlT w w.heap.size A l) :
    Calls Tryz.prog 50 #[.slice A l.length c] w fun e w' => stcOut l w e w' := by
  obtain ⟨i0, hi, hz0, hz1, hz2⟩ := info_parts info_stc
  cases A with
  | none =>
    have hl : l = [] := by
      cases l with
      | nil => rfl
      | cons a t =>
        obtain ⟨b, off, e, _⟩ := hs (by simp)
        cases e
    subst hl
    have HO : Hid (∀ A c, stcOut [] w (.returned (.slice A 0 c)) w) := fun A c => ⟨A, c, rfl, SlT.nil, Below.refl _ _, fun h => absurd rfl h⟩
    clear hs
    rw [List.length_nil]
    have hq := eql_none 0 c
    go_enter Tryz.func50, Tryz.ntmps50
    go_wp2
    go_ret
    exact HO.out _ _
  | some ad =>
    have hnews : ∀ j u, (l.map Stc.cells).flatten[j]? = some u → (w.alloc (.cells #[] 51)).cell? (ad.add j) = some u := by
      intro j u hu
      have hne : l.map Stc.cells ≠ [] := fun e => by rw [e] at hu; simp at hu
      obtain ⟨b, off, e, hB, _⟩ := hs hne
      cases e
      have h1 := SlS.flat (cells4 l) hs j u hu
      exact (World.cell?_alloc_lt w _ _ (by have e : ((⟨b, off, none⟩ : Addr).add j).block = b := by unfold Addr.add; split <;> rfl
                                            rw [e]; exact hB)).trans h1
    have HN := Lib.hid hnews
    have hlen : (l.map Stc.cells).flatten.length = l.length * 4 := by rw [flat_len (cells4 l), List.length_map]
    have HL := Lib.hid hlen
    clear hs hnews hlen
    have hq := eql_some ad l.length c
    go_enter Tryz.func50, Tryz.ntmps50
    go_wp2_with (at_builtin; refine wpList_append_own _ rfl _ _ 52 rfl w.heap.size 51 i0 (.agg #[.int .u8 0, .bool false, .int .i64 0, .int .i64 0]) 4 24 Tryz.underlying52 hi hz0 hz1 hz2 rfl (by decide) _ 0 [] rfl (World.ownsRow_lit w #[] 0 (Nat.le_refl _) (by decide) rfl) ad l.length c (l.map Stc.cells).flatten rfl HL.out HN.out (one4 l) (by unfold maxLen; omega) (by omega) (by simp) ?_; intro v' w1 hown' hgrow _; have HOw := Lib.hid hown'; have HG := Lib.hid hgrow; clear hown' hgrow)
    have ho := HOw.out
    rw [Nat.zero_add, List.nil_append] at ho
    obtain ⟨a2, c2, rfl, _⟩ := own_slice ho
    have hT : SlT w1 w1.heap.size a2 l := SlS.of_own (cells4 l) (by rw [List.length_map]) ho
    have hB : Below w.heap.size w w1 := ((Below.refl _ w).alloc (Nat.le_refl _) _).grown HG.out (by simp) (fun k e => by cases e; exact Nat.le_refl _)
    have HO := Lib.hid (show stcOut l w (.returned (.slice a2 l.length c2)) w1 from ⟨a2, c2, rfl, hT, hB, fun _ ad had => (ho.lt ad.block (by rw [had]; rfl)).1⟩)
    clear ho hT hB HOw HG
    go_ret
    exact HO.out
end Go.Proofs.YtbnddpknejgmhaaGreat
namespace Go.Proofs.YtbnddpknejgmhaaGreat
open Go.RowKit Go.Shelf
set_option maxRecDepth 100000

/-- The other side of a stitch. -/
def otherS (s : Stc) : Stc := ⟨s.kind, (formI s.kind).sided && !s.purl, if 0 < (formI s.kind).b1 then s.b else s.a, if 0 < (formI s.kind).b1 then s.a else s.b⟩
def turnedL (l : List Stc) : List Stc := (l.map otherS).reverse
def faceL (r : RowC) : List Stc := if r.1 then turnedL r.2 else r.2
def stcOut2 (l : List Stc) (w : World) (e : Ending) (w' : World) : Prop := ∃ A c, e = .returned (.tuple #[.slice A l.length c, .int .i64 0]) ∧ SlT w' w'.heap.size A l ∧ Below w.heap.size w w' ∧ (l ≠ [] → ∀ ad, A = some ad → w.heap.size ≤ ad.block)
/-- What Turn does. -/
def TurnC : Prop := ∀ (A : Option Addr) (c : Nat) (l : List Stc) (w : World), (∀ s ∈ l, s.wf) → allE l = 0 → SlT w w.heap.size A l →
  Calls Tryz.prog 49 #[.slice A l.length c] w fun e w' => stcOut2 (turnedL l) w e w'
theorem rowE_zero {n : Int} {r : List Stc} (h : rowE n r = 0) : allE r = 0 ∧ usesE r = n := by
  unfold rowE at h
  by_cases h1 : allE r = 0
  · rw [if_neg (by simpa using h1)] at h
    by_cases h2 : usesE r = n
    · exact ⟨h1, h2⟩
    · rw [if_pos h2] at h; cases h
  · rw [if_pos h1] at h; exact absurd h h1
theorem err_rows : ∀ {n : Int} {p : List RowC}, errR n p = 0 → ∀ r ∈ p, allE r.2 = 0
  | _, [], _, r, hr => by cases hr
  | n, x :: t, h, r, hr => by
    simp only [errR] at h
    by_cases h1 : rowE n x.2 = 0
    · rw [if_pos h1] at h
      rcases List.mem_cons.1 hr with rfl | hr
      · exact (rowE_zero h1).1
      · exact err_rows h r hr
    · rw [if_neg h1] at h; exact absurd h h1
theorem chart_zero {start : Int} {p : List RowC} (h : chartE start p = 0) : p.length ≤ 100 ∧ (0 ≤ start ∧ start ≤ 200) ∧ errR start p = 0 := by
  unfold chartE at h
  by_cases h1 : 100 < p.length
  · rw [if_pos h1] at h; cases h
  rw [if_neg h1] at h
  by_cases h2 : start < 0 ∨ 200 < start
  · rw [if_pos h2] at h; cases h
  rw [if_neg h2] at h
  exact ⟨by omega, by omega, h⟩

theorem rows_at {w : World} {B : Nat} {A : Option Addr} {p : List RowC} (h : SlC w B A p) {k : Nat} {r : RowC} (hr : p[k]? = some r) :
    ∃ b off A' C', A = some ⟨b, off, none⟩ ∧ b < B ∧ w.cell? ⟨b, off + k * 2, none⟩ = some (.bool r.1) ∧ w.cell? ⟨b, off + k * 2 + 1, none⟩ = some (.slice A' r.2.length C') ∧ r.2.length ≤ C' ∧ SlT w B A' r.2 := by
  obtain ⟨b, off, e, hB, hc⟩ := h (fun e => by subst e; simp at hr)
  obtain ⟨A', C', h0, h1, h2, h3⟩ := hc k r hr
  exact ⟨b, off, A', C', e, hB, h0, h1, h2, h3⟩
set_option maxHeartbeats 2000000 in
theorem face_any (start : Int) (A : Option Addr) (c : Nat) (p : List RowC) (hw : RowsWf p) (he : chartE start p = 0) (k : Nat) (r : RowC) (hr : p[k]? = some r) (hT : r.1 = false ∨ TurnC) (w : World) (hs : SlC w w.heap.size A p) :
    Calls Tryz.prog 25 #[.agg #[.int .i64 start, .slice A p.length c], .int .i64 k] w fun e w' => stcOut2 (faceL r) w e w' := by
  have hz := chart_zero he
  have hkl : k < p.length := (List.getElem?_eq_some_iff.1 hr).1
  have hmem := List.mem_of_getElem? hr
  have har := err_rows hz.2.2 r hmem
  have hwr := hw r hmem
  have hpl := hz.1
  have hbw0 : Below w.heap.size w (w.alloc (.cells #[.int .i64 start, .slice A p.length c] 24)) := (Below.refl _ w).alloc (Nat.le_refl _) _
  have HCk := Lib.hid (ccheck_any start A c p hw _ ((hs.below hbw0).more hbw0.size))
  rw [he] at HCk
  obtain ⟨b, off, A', C', rfl, hB, hcr0, hcr1, hC, hsi⟩ := rows_at hs hr
  have hx0 := cell_new (w1 := w.alloc (.cells #[.int .i64 start, .slice (some ⟨b, off, none⟩) p.length c] 24)) (b := w.heap.size) (o := 0) rfl rfl rfl
  have hx1 := cell_new (w1 := w.alloc (.cells #[.int .i64 start, .slice (some ⟨b, off, none⟩) p.length c] 24)) (b := w.heap.size) (o := 1) rfl rfl rfl
  have HX := Lib.hid (fun (w1 : World) (hb : Below (w.heap.size + 1) (w.alloc (.cells #[.int .i64 start, .slice (some ⟨b, off, none⟩) p.length c] 24)) w1) => (show w1.cell? ⟨w.heap.size, 0, none⟩ = some (.int .i64 start) ∧ w1.cell? ⟨w.heap.size, 1, none⟩ = some (.slice (some ⟨b, off, none⟩) p.length c) ∧ w1.cell? ⟨b, off + k * 2, none⟩ = some (.bool r.1) ∧ w1.cell? ⟨b, off + k * 2 + 1, none⟩ = some (.slice A' r.2.length C') from
    ⟨(bcell hb (by omega) _).trans hx0, (bcell hb (by omega) _).trans hx1, (bcell (hbw0.trans (hb.mono (by omega))) hB _).trans hcr0, (bcell (hbw0.trans (hb.mono (by omega))) hB _).trans hcr1⟩))
  have HB0 := Lib.hid hbw0
  have HSi := Lib.hid hsi
  have HA := Lib.hid har
  have HWr := Lib.hid hwr
  clear hx0 hx1 hcr0 hcr1 hsi hs hw hz hbw0 he hr har hwr hmem
  cases hq : r.1 with
  | false =>
    have HF : Hid (faceL r = r.2) := by unfold Hid faceL; rw [hq]; rfl
    have HCl := Lib.hid (fun (w1 : World) (hb : Below w.heap.size w w1) => clone_any A' C' r.2 (by have := (all_zero HA.out).1; omega) w1 ((HSi.out.below hb).more hb.size))
    rw [hq] at HX
    clear hq hT
    go_enter Tryz.func25, Tryz.ntmps25
    go_wp2_with (first
      | (go_at_call 23; refine HCk.out.mono ?_; rintro e w1 ⟨rfl, hb1⟩
         obtain ⟨c0, c1, c2, c3⟩ := HX.out w1 (hb1.mono (by simp))
         have hbw1 := HB0.out.trans (hb1.mono (by simp)))
      | (go_at_call 50; refine (HCl.out _ hbw1).mono ?_; rintro e w2 ⟨a2, c2', rfl, hT2, hb2, hf2⟩))
    go_ret2
    exact ⟨a2, c2', by rw [HF.out]; rfl, by rw [HF.out]; exact hT2, hbw1.trans (hb2.mono hbw1.size), fun hne ad had => Nat.le_trans hbw1.size (hf2 (by rw [← HF.out]; exact hne) ad had)⟩
  | true =>
    have HF : Hid (faceL r = turnedL r.2) := by unfold Hid faceL; rw [hq]; rfl
    have hTC : TurnC := by
      rcases hT with h | h
      · rw [hq] at h; cases h
      · exact h
    have HCl := Lib.hid (fun (w1 : World) (hb : Below w.heap.size w w1) => hTC A' C' r.2 w1 HWr.out HA.out ((HSi.out.below hb).more hb.size))
    rw [hq] at HX
    clear hq hT hTC
    go_enter Tryz.func25, Tryz.ntmps25
    go_wp2_with (first
      | (go_at_call 23; refine HCk.out.mono ?_; rintro e w1 ⟨rfl, hb1⟩
         obtain ⟨c0, c1, c2, c3⟩ := HX.out w1 (hb1.mono (by simp))
         have hbw1 := HB0.out.trans (hb1.mono (by simp)))
      | (go_at_call 49; refine (HCl.out _ hbw1).mono ?_; rintro e w2 ⟨a2, c2', rfl, hT2, hb2, hf2⟩))
    go_ret2
    exact ⟨a2, c2', by rw [HF.out]; rfl, by rw [HF.out]; exact hT2, hbw1.trans (hb2.mono hbw1.size), fun hne ad had => Nat.le_trans hbw1.size (hf2 (by rw [← HF.out]; exact hne) ad had)⟩
end Go.Proofs.YtbnddpknejgmhaaGreat
namespace Go.Proofs.YtbnddpknejgmhaaGreat
open Go.RowKit Go.Shelf Go.Lib Go.Sort
set_option maxRecDepth 100000

def renR : Ren := { f := fun x => match x with | 35 => 26 | n => n, t := fun x => match x with | 22 => 28 | 23 => 64 | 3 => 3 | 4 => 4 | 0 => 0 | n => n, g := fun x => x }
theorem layR : Go.Proofs.SlLaysE0.n35 Tryz.prog renR := {
  mixed := by kernel_rfl
  f35 := ⟨Tryz.f26.name, by decide, Tryz.func26.trans rfl⟩
  t0 := Tryz.underlying0
  a0 := Tryz.isAgg0
  z0 := Tryz.sizeOf0
  v0 := Tryz.zeroValue0
  t3 := Tryz.underlying3
  a3 := Tryz.isAgg3
  z3 := Tryz.sizeOf3
  v3 := Tryz.zeroValue3
  t4 := Tryz.underlying4
  a4 := Tryz.isAgg4
  z4 := Tryz.sizeOf4
  v4 := Tryz.zeroValue4
  t22 := Tryz.underlying28
  a22 := Tryz.isAgg28
  z22 := Tryz.sizeOf28
  v22 := Tryz.zeroValue28 }

theorem cells7 (l : List Ins) : ∀ cs ∈ l.map Ins.cells, cs.length = 7 := by
  intro cs h
  obtain ⟨s, _, rfl⟩ := List.mem_map.1 h
  rfl
theorem one7' (s : Ins) : ∀ v ∈ s.cells, v.oneCell' = true := by
  intro u hu
  simp only [Ins.cells, List.mem_cons, List.not_mem_nil, or_false] at hu
  rcases hu with rfl | rfl | rfl | rfl | rfl | rfl | rfl <;> rfl
theorem one7 (l : List Ins) : ∀ u ∈ (l.map Ins.cells).flatten, u.oneCell' = true := by
  intro u hu
  obtain ⟨cs, hcs, hu⟩ := List.mem_flatten.1 hu
  obtain ⟨s, _, rfl⟩ := List.mem_map.1 hcs
  exact one7' s u hu
instance : Inhabited Ins := ⟨⟨0, false, 0, 0, 0, 0, 0⟩⟩
/-- A row of the call's own holds its instructions, none frozen. -/
theorem holds_own {w : World} {B g n cap : Nat} {t : TypeId} {l : List Ins} (hn : n = l.length) (h : w.ownsRow B t 7 (.slice (some ⟨g, 0, none⟩) n cap) n (l.map Ins.cells).flatten) : HoldsK Ins.cells 7 w g 0 l.toArray := by
  intro j hj
  rw [size_flatK, List.size_toArray] at hj
  have hlen : (l.map Ins.cells).flatten.length = l.length * 7 := by rw [flat_len (cells7 l), List.length_map]
  have hcell := h.cellAt (g := g) j (by omega)
  rw [Nat.zero_add]
  refine ⟨?_, ?_⟩
  · rw [hcell]
    have hq : j / 7 < l.length := by omega
    have h1 : (l.map Ins.cells)[j / 7]? = some l[j / 7].cells := by rw [List.getElem?_map, List.getElem?_eq_getElem hq]; rfl
    have hm : j % 7 < 7 := Nat.mod_lt _ (by omega)
    have h2 : l[j / 7].cells[j % 7]? = some (l[j / 7].cells[j % 7]'(by rw [Ins.cells_length]; exact hm)) := List.getElem?_eq_getElem _
    have h3 := flat_at (cells7 l) h1 h2
    rw [show j / 7 * 7 + j % 7 = j by omega] at h3
    rw [h3, get_flatK _ _ _ _ (by rw [List.size_toArray]; exact hj)]
    have e : l.toArray[j / 7]! = l[j / 7] := by rw [getElem!_pos _ _ (by rw [List.size_toArray]; exact hq)]; rfl
    have e2 : (l[j / 7].cells)[j % 7]! = l[j / 7].cells[j % 7]'(by rw [Ins.cells_length]; exact hm) := getElem!_pos (l[j / 7].cells) (j % 7) (by rw [Ins.cells_length]; exact hm)
    rw [e, e2]
    rfl
  · rcases h.2 with ⟨hv, _⟩ | ⟨g', cap', cur, hv, _, hh, _⟩
    · cases hv
    · cases hv
      simp only [World.frozen?, hh]
      simp
      try omega
theorem grown_mapBlock (w : World) (n blk : Nat) (f : Array Value → Array Value) : w.grownBy (mapBlock (Sort.ahead w n) blk f) (some blk) := by
  refine ⟨rfl, rfl, rfl, by simp [mapBlock, Sort.ahead], fun b _ hb => ?_⟩
  simp only [mapBlock, Sort.ahead]
  rw [Array.getElem?_modify]
  rw [if_neg (fun e => hb (by rw [e]))]
set_option maxHeartbeats 1000000 in
theorem reverse_any (g n cap B : Nat) (t : TypeId) (l : List Ins) (hn : n = l.length) (hl : l.length ≤ 9223372036854775807) (w : World) (h : w.ownsRow B t 7 (.slice (some ⟨g, 0, none⟩) n cap) n (l.map Ins.cells).flatten) :
    Calls Tryz.prog 26 #[.slice (some ⟨g, 0, none⟩) n cap] w fun e w' => e = .returned (.tuple #[]) ∧ SlX w' w'.heap.size (some ⟨g, 0, none⟩) l.reverse ∧ w.grownBy w' (some g) := by
  have hH := holds_own hn h
  have hg : g < w.heap.size := by
    rcases h.2 with ⟨hv, _⟩ | ⟨g', cap', cur, hv, _, hh, _⟩
    · cases hv
    · cases hv; exact (Array.getElem?_eq_some_iff.1 hh).1
  have hc := Go.Proofs.AnyQ.slices_Reverse layR 7 (fun w => by kernel_rfl) (fun w => by kernel_rfl) Ins.cells Ins.cells_length one7' g 0 cap l.toArray w hH (by rw [List.size_toArray]; exact hl)
  rw [List.size_toArray, ← hn] at hc
  refine Calls.mono hc ?_
  rintro e w' ⟨rfl, q, rfl⟩
  refine ⟨rfl, fun hne => ?_, grown_mapBlock _ _ _ _⟩
  have hK : HoldsK Ins.cells 7 (putRowK Ins.cells 7 (Sort.ahead w q) g 0 l.toArray.reverse) g 0 l.toArray.reverse := holdsK_putRowK _ _ _ _ _ l.toArray _ (Go.Sort.holdsK_ahead _ _ _ _ _ _ _ hH) (by simp)
  refine ⟨g, 0, rfl, by simpa [putRowK, putRow, mapBlock, Sort.ahead] using hg, fun j cs hz i v hv => ?_⟩
  rw [List.getElem?_map] at hz
  cases hr : l.reverse[j]? with
  | none => rw [hr] at hz; cases hz
  | some x =>
    rw [hr] at hz
    simp only [Option.map_some, Option.some.injEq] at hz
    subst hz
    have hj := (List.getElem?_eq_some_iff.1 hr).1
    have hi := (List.getElem?_eq_some_iff.1 hv).1
    rw [Ins.cells_length] at hi
    rw [List.length_reverse] at hj
    have := (hK (j * 7 + i) (by rw [size_flatK]; simp; omega)).1
    rw [get_flatK _ _ _ _ (by simp; omega), show (j * 7 + i) / 7 = j by omega, show (j * 7 + i) % 7 = i by omega] at this
    rw [Nat.zero_add] at this ⊢
    rw [this]
    have e : l.toArray.reverse[j]! = x := by
      rw [show l.toArray.reverse = l.reverse.toArray by simp, getElem!_pos _ _ (by simp; omega)]
      simpa using (List.getElem?_eq_some_iff.1 hr).2
    rw [e]
    have e2 : x.cells[i]! = x.cells[i]'(by rw [Ins.cells_length]; exact hi) := getElem!_pos x.cells i (by rw [Ins.cells_length]; exact hi)
    rw [e2]
    exact congrArg some (List.getElem?_eq_some_iff.1 hv).2
theorem reverse_none (w : World) : Calls Tryz.prog 26 #[.slice none 0 0] w fun e w' => e = .returned (.tuple #[]) ∧ w' = w :=
  Go.Proofs.AnyQ.slices_Reverse_empty layR none 0 w
end Go.Proofs.YtbnddpknejgmhaaGreat
