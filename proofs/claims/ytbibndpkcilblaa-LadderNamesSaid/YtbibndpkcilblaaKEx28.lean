/- Layer 28: the chapter's example, and alive. -/
import Derived.Test.YtbibndpkcilblaaKG22
namespace Go.Proofs.Ytbibndpkcilblaa
open Go.RowKit Go.Shelf Go.Sort
set_option maxRecDepth 100000

def exP : List RowC := [(false, [⟨1, false, 0, 0⟩, ⟨1, false, 0, 0⟩]), (false, [⟨3, false, 2, 0⟩]), (false, [⟨5, false, 2, 0⟩])]
theorem exP_wf : RowsWf exP := fun r hr s hs => by
  have h : ∀ r ∈ exP, ∀ s ∈ r.2, 0 ≤ s.kind ∧ s.kind ≤ 255 := by decide
  exact h r hr s hs
/-- A literal of stitches, owned. -/
theorem lit_pxS (W : World) (l : List Stc) (n : Nat) (cs : Array Value) (h : cs = (l.map Stc.cells).flatten.toArray) (hn : n = l.length) (hl : n ≤ 100000) : (pxS (.slice (some ⟨W.heap.size, 0, none⟩) n n) l).lies (W.alloc (.cells cs 56)) W.heap.size := by
  subst h
  subst hn
  have hfl : (l.map Stc.cells).flatten.length = l.length * 4 := by rw [flat_len (cells4 l), List.length_map]
  have e : (W.alloc (.cells (l.map Stc.cells).flatten.toArray 56)).heap[W.heap.size]? = some (.cells (l.map Stc.cells).flatten.toArray 56 (0, 0)) := Array.getElem?_push_size
  have := own_of_whole (B := W.heap.size) (n := l.length) (c := l.length) (sz := 4) e (Nat.le_refl _) (Nat.le_refl _) (by unfold maxLen; omega) (by simp [hfl])
  unfold pxS Own.lies
  rw [List.take_of_length_le (by simpa using Nat.le_of_eq hfl)] at this
  exact this
/-- Three rows in a literal, owned. -/
def rwsO (g : Nat) (v1 v2 v3 : Value) : Own := ⟨59, 2, 3, .slice (some ⟨g, 0, none⟩) 3 3, [.bool false, v1, .bool false, v2, .bool false, v3]⟩
theorem lit_rwsO (W : World) (v1 v2 v3 : Value) : (rwsO W.heap.size v1 v2 v3).lies (W.alloc (.cells #[.bool false, v1, .bool false, v2, .bool false, v3] 59)) W.heap.size := by
  have e : (W.alloc (.cells #[.bool false, v1, .bool false, v2, .bool false, v3] 59)).heap[W.heap.size]? = some (.cells #[.bool false, v1, .bool false, v2, .bool false, v3] 59 (0, 0)) := Array.getElem?_push_size
  exact own_of_whole (B := W.heap.size) (n := 3) (c := 3) (sz := 2) e (Nat.le_refl _) (Nat.le_refl _) (by unfold maxLen; omega) rfl
theorem rws_sl {W : World} {B g n1 n2 n3 c1 c2 c3 : Nat} {A1 A2 A3 : Option Addr} {r1 r2 r3 : List Stc} (h : (rwsO g (.slice A1 n1 c1) (.slice A2 n2 c2) (.slice A3 n3 c3)).lies W B) (e1 : n1 = r1.length) (e2 : n2 = r2.length) (e3 : n3 = r3.length) (h1 : SlT W W.heap.size A1 r1) (h2 : SlT W W.heap.size A2 r2) (h3 : SlT W W.heap.size A3 r3) (k1 : n1 ≤ c1) (k2 : n2 ≤ c2) (k3 : n3 ≤ c3) :
    SlC W W.heap.size (some ⟨g, 0, none⟩) [(false, r1), (false, r2), (false, r3)] := fun _ => by
  have h0 : W.ownsRow B 59 2 (.slice (some ⟨g, 0, none⟩) 3 3) 3 [.bool false, .slice A1 n1 c1, .bool false, .slice A2 n2 c2, .bool false, .slice A3 n3 c3] := h
  have g0 : ∀ (k : Nat) (v : Value), k < 6 → [Value.bool false, .slice A1 n1 c1, .bool false, .slice A2 n2 c2, .bool false, .slice A3 n3 c3][k]? = some v → W.cell? ⟨g, k, none⟩ = some v := fun k v hk hv => by rw [h0.cellAt k (by omega)]; exact hv
  subst e1; subst e2; subst e3
  refine ⟨g, 0, rfl, (World.ownsRow.lt h0 g rfl).2, fun k r hr => ?_⟩
  match k with
  | 0 => simp at hr; subst hr; exact ⟨A1, c1, g0 0 _ (by omega) rfl, g0 1 _ (by omega) rfl, k1, h1⟩
  | 1 => simp at hr; subst hr; exact ⟨A2, c2, g0 2 _ (by omega) rfl, g0 3 _ (by omega) rfl, k2, h2⟩
  | 2 => simp at hr; subst hr; exact ⟨A3, c3, g0 4 _ (by omega) rfl, g0 5 _ (by omega) rfl, k3, h3⟩
  | k + 3 => simp at hr
set_option maxHeartbeats 1000000 in
theorem lplain_any (A : Option Addr) (n c : Nat) (w : World) : Calls Try.prog 28 #[.slice A n c] w fun e w' => e = .returned (.agg #[.bool false, .slice A n c]) ∧ Below w.heap.size w w' := by
  have hb := al_t w (.cells #[.bool false, .slice A n c] 59)
  have c0 : (w.alloc (.cells #[.bool false, .slice A n c] 59)).cell? ⟨w.heap.size, 0, none⟩ = some (.bool false) := cell_new rfl rfl rfl
  have c1 : (w.alloc (.cells #[.bool false, .slice A n c] 59)).cell? ⟨w.heap.size, 1, none⟩ = some (.slice A n c) := cell_new rfl rfl rfl
  have HB := Lib.hid hb
  clear hb
  go_enter Try.func28, Try.ntmps28
  go_wp2
  refine bodyPost_ret (v := .agg #[.bool false, .slice A n c]) ?_ rfl ⟨rfl, HB.out⟩
  simp [results, Try.results28, go_sem, c0, c1]
def ExPost (w : World) (e : Ending) (w' : World) : Prop := ∃ A c, e = .returned (.agg #[.int .i64 2, .slice A 3 c]) ∧ SlC w' w'.heap.size A exP ∧ Below w.heap.size w w'
set_option maxHeartbeats 4000000 in
theorem example_any (w : World) : Calls Try.prog 27 #[] w fun e w' => ExPost w e w' := by
  have hb1 := al_t w (.cells #[.int .i64 0, .slice none 0 0] 24)
  have h1 : Owns (w.alloc (.cells #[.int .i64 0, .slice none 0 0] 24)) w.heap.size [bxT 24 w.heap.size [.int .i64 0, nilV]] := Owns.nil.add hb1 (Nat.le_refl _) (bxT_new w _ _)
  obtain ⟨w1, hw1⟩ : ∃ w1, w1 = w.alloc (.cells #[.int .i64 0, .slice none 0 0] 24) := ⟨_, rfl⟩
  have hs1 : w1.heap.size = w.heap.size + 1 := by rw [hw1]; simp
  rw [← hw1] at hb1 h1
  have hb2 := al_t w1 (.cells #[.int .u8 1, .bool false, .int .i64 0, .int .i64 0] 56)
  have h2 := h1.add hb2 hb1.size (bxT_new w1 56 [.int .u8 1, .bool false, .int .i64 0, .int .i64 0])
  rw [hs1, hw1] at h2
  have hb3 := hb1.trans (hb2.mono hb1.size)
  rw [hw1] at hb3
  have HX := Lib.hid (And.intro h2 hb3)
  obtain ⟨rb, hrb⟩ : ∃ rb, rb = w.heap.size := ⟨_, rfl⟩
  obtain ⟨kb, hkb⟩ : ∃ kb, kb = w.heap.size + 1 := ⟨_, rfl⟩
  clear hb1 h1 hb2 h2 hb3 hs1 hw1 w1
  go_enter Try.func27, Try.ntmps27
  go_upto_region 2 with fail
  rw [← hrb] at HX
  rw [← hrb] at hkb
  rw [← hkb] at HX
  refine abs_world (Q := fun W => Code.wp _ _ _ _ W) (F := fun W => Owns W w.heap.size [bxT 56 kb [.int .u8 1, .bool false, .int .i64 0, .int .i64 0], bxT 24 rb [.int .i64 0, nilV]] ∧ Below w.heap.size w W) _ ?_ ?_
  · have h := HX.out
    rw [hkb] at h ⊢
    rw [hrb] at h ⊢
    exact h
  rw [show (Value.pointer (some ⟨w.heap.size, 0, none⟩)) = Value.pointer (some ⟨rb, 0, none⟩) by rw [hrb], show (Value.pointer (some ⟨w.heap.size + 1, 0, none⟩)) = Value.pointer (some ⟨kb, 0, none⟩) by rw [hkb, hrb]]
  clear HX hrb hkb
  rintro W1 ⟨h1, hb1⟩
  obtain ⟨g, -⟩ := bxT_at h1.head
  have k0 := g 0 _ rfl
  have k1 := g 1 _ rfl
  have k2 := g 2 _ rfl
  have k3 := g 3 _ rfl
  have HX1 := Lib.hid (And.intro h1 hb1)
  clear g h1 hb1
  go_wp2_with fail
  refine (lplain_any _ _ _ _).mono ?_
  rintro e w2 ⟨rfl, hb2⟩
  have hbl := (al_t W1 (.cells #[.int .u8 1, .bool false, .int .i64 0, .int .i64 0, .int .u8 1, .bool false, .int .i64 0, .int .i64 0] 56))
  have h2 := (HX1.out.1.add hbl HX1.out.2.size (lit_pxS W1 [⟨1, false, 0, 0⟩, ⟨1, false, 0, 0⟩] 2 _ rfl rfl (by omega))).to hb2
  have HX2 := Lib.hid (And.intro h2 (HX1.out.2.trans ((hbl.trans (hb2.mono hbl.size)).mono HX1.out.2.size)))
  obtain ⟨g1, hg1⟩ : ∃ g, g = W1.heap.size := ⟨_, rfl⟩
  rw [← hg1] at HX2 ⊢
  clear HX1 k0 k1 k2 k3 h2 hb2 hbl hg1
  clear W1
  go_wp2_with fail
  refine (lplain_any _ _ _ _).mono ?_
  rintro e w3 ⟨rfl, hb3⟩
  have hbl := (al_t w2 (.cells #[.int .u8 3, .bool false, .int .i64 2, .int .i64 0] 56))
  have h3 := (HX2.out.1.add hbl HX2.out.2.size (lit_pxS w2 [⟨3, false, 2, 0⟩] 1 _ rfl rfl (by omega))).to hb3
  have HX3 := Lib.hid (And.intro h3 (HX2.out.2.trans ((hbl.trans (hb3.mono hbl.size)).mono HX2.out.2.size)))
  obtain ⟨g2, hg2⟩ : ∃ g, g = w2.heap.size := ⟨_, rfl⟩
  rw [← hg2] at HX3 ⊢
  clear HX2 h3 hb3 hbl hg2
  clear w2
  go_wp2_with fail
  refine (lplain_any _ _ _ _).mono ?_
  rintro e w4 ⟨rfl, hb4⟩
  have hbl := (al_t w3 (.cells #[.int .u8 5, .bool false, .int .i64 2, .int .i64 0] 56))
  have h4 := (HX3.out.1.add hbl HX3.out.2.size (lit_pxS w3 [⟨5, false, 2, 0⟩] 1 _ rfl rfl (by omega))).to hb4
  have hb4' := HX3.out.2.trans ((hbl.trans (hb4.mono hbl.size)).mono HX3.out.2.size)
  obtain ⟨g3, hg3⟩ : ∃ g, g = w3.heap.size := ⟨_, rfl⟩
  rw [← hg3] at h4 ⊢
  have hal := al_t w4 (.cells #[.bool false, .slice (some ⟨g1, 0, none⟩) 2 2, .bool false, .slice (some ⟨g2, 0, none⟩) 1 1, .bool false, .slice (some ⟨g3, 0, none⟩) 1 1] 59)
  have h5 := h4.add hal hb4'.size (lit_rwsO w4 (.slice (some ⟨g1, 0, none⟩) 2 2) (.slice (some ⟨g2, 0, none⟩) 1 1) (.slice (some ⟨g3, 0, none⟩) 1 1))
  have hb5 := hb4'.trans (hal.mono hb4'.size)
  have h6 := h5.perm ((List.Perm.cons _ (List.Perm.cons _ (List.Perm.cons _ (List.Perm.cons _ (List.Perm.swap _ _ _))))).trans ((List.Perm.cons _ (List.Perm.cons _ (List.Perm.cons _ (List.Perm.swap _ _ _)))).trans ((List.Perm.cons _ (List.Perm.cons _ (List.Perm.swap _ _ _))).trans ((List.Perm.cons _ (List.Perm.swap _ _ _)).trans (List.Perm.swap _ _ _)))))
  obtain ⟨g, gf, -, -⟩ := bxT_at h6.head
  have r0 := g 0 _ rfl
  have r1 := g 1 _ rfl
  have q0 := gf 0
  have q1 := gf 1
  have b7 := bxT_below h6 hb5.size 0 (.int .i64 2)
  have h7 := bxT_set h6 0 (.int .i64 2)
  have b8 := bxT_below h7 (Nat.le_trans hb5.size b7.size) 1 (.slice (some ⟨w4.heap.size, 0, none⟩) 3 3)
  have h8 := bxT_set h7 1 (.slice (some ⟨w4.heap.size, 0, none⟩) 3 3)
  have HB := Lib.hid (hb5.trans (b7.trans b8))
  have HC := Lib.hid (rws_sl h8.tail.head rfl rfl rfl (pxS_sl h8.tail.tail.tail.tail.head) (pxS_sl h8.tail.tail.tail.head) (pxS_sl h8.tail.tail.head) (Nat.le_refl _) (Nat.le_refl _) (Nat.le_refl _))
  obtain ⟨t, -, -, -⟩ := bxT_at h8.head
  have HT := Lib.hid (And.intro (t 0 _ rfl) (t 1 _ rfl))
  clear g gf t h4 h5 h6 h7 h8 hb4 hb4' hb5 b7 b8 hal hbl HX3 hg3
  go_wp2
  refine bodyPost_ret (v := .agg #[.int .i64 2, .slice (some ⟨w4.heap.size, 0, none⟩) 3 3]) ?_ rfl ⟨_, _, rfl, HC.out, HB.out⟩
  have u0 := HT.out.1
  have u1 := HT.out.2
  simp [results, Try.results27, go_sem, u0, u1]
end Go.Proofs.Ytbibndpkcilblaa
