/- Layer 32. -/
import Derived.Test.YtflpikickbellaaGreatZ8
import Derived.Deep.RegionLaw
namespace Go.Proofs.YtflpikickbellaaGreat
open Go.RowKit Go.Shelf Go.Sort
set_option maxRecDepth 100000
def pxJ (v : Value) (l : List Int) : Own := ⟨3, 1, l.length, v, l.map (Value.int .i64)⟩
theorem pxJ_form {w : World} {B : Nat} {v : Value} {l : List Int} {L : List Own} (h : Owns w B (pxJ v l :: L)) : ∃ a c, v = .slice a l.length c := by
 have h0 : w.ownsRow B 3 1 v l.length (l.map (Value.int .i64)) := h.head
 rcases h0.2 with ⟨rfl, e⟩ | ⟨g, cap, cur, rfl, -⟩
 · rw [e]; exact ⟨none, 0, rfl⟩
 · exact ⟨_, _, rfl⟩
theorem pxJ_sl {w : World} {B : Nat} {a : Option Addr} {n c : Nat} {l : List Int} {L : List Own} (h : Owns w B (pxJ (.slice a n c) l :: L)) : SlI w w.heap.size a l := fun hne => by
 have h0 : w.ownsRow B 3 1 (.slice a n c) l.length (l.map (Value.int .i64)) := h.head
 have h1 := h0
 rcases h0.2 with ⟨-, e⟩ | ⟨g, cap, cur, hv, hg, hh, -⟩
 · exact absurd (List.length_eq_zero_iff.1 e) hne
 · cases hv
   refine ⟨g, 0, rfl, (Array.getElem?_eq_some_iff.1 hh).1, fun j z hz => ?_⟩
   have hj := (List.getElem?_eq_some_iff.1 hz).1
   rw [Nat.zero_add, World.ownsRow.cellAt h1 j (by omega), List.getElem?_map, hz]
   rfl
theorem pxJ_app {w : World} {B c : Nat} {a : Option Addr} {l : List Int} {L : List Own} (h : Owns w B (pxJ (.slice a l.length c) l :: L)) (hB : B ≤ w.heap.size) (hl : l.length ≤ 100000) (x : Int) :
 ∃ A' c' w', (Builtin.append_ #[22, 22] 22 #[.slice a l.length c, .slice (some ⟨w.heap.size, 0, none⟩) 1 1]).run Tryz.prog (w.alloc (.cells #[.int .i64 x] 3)) = .ok (.slice A' (l.length + 1) c') w' ∧ Owns w' B (pxJ (.slice A' (l.length + 1) c') (l ++ [x]) :: L) ∧ Below B w w' := by
 obtain ⟨ii, hii, hii0, hii1, hii2⟩ := info_parts info_int'
 have hal := al_t w (.cells #[.int .i64 x] 3)
 have h9 := h.to hal
 have h0 : (w.alloc (.cells #[.int .i64 x] 3)).ownsRow B 3 1 (.slice a l.length c) l.length (l.map (Value.int .i64)) := h9.head
 have hsz := hal.size
 obtain ⟨A', c', w', hr, ho, hg, hn⟩ := run_app_any Tryz.underlying22 hii hii0 hii1 hii2 rfl (by decide) h0 (some ⟨w.heap.size, 0, none⟩) 1 1 [.int .i64 x] rfl (fun e => by cases e) (fun ad e j u hu => by
  cases e
  have hj : j = 0 := by have := (List.getElem?_eq_some_iff.1 hu).1; simp at this; exact this
  subst hj
  have e : u = .int .i64 x := by simpa using hu.symm
  subst e
  exact cell_new rfl rfl rfl) (fun u hu => by rw [List.mem_singleton.1 hu]; rfl) (by unfold maxLen; omega) (by omega) (by omega)
 refine ⟨A', c', w', hr, ?_, (hal.mono hB).trans (Below.of_grown hg (by omega) (fun k e => (World.ownsRow.lt h0 k e).1))⟩
 refine h9.turn (o' := pxJ (.slice A' (l.length + 1) c') (l ++ [x])) hg ?_ hn
 unfold pxJ Own.lies
 rw [List.length_append, List.map_append]
 exact ho
theorem info_insT : (Tryz.prog.info? 63).map (fun i => (i.zero, i.size, i.bytes)) = some (some (.agg #[.int .u8 0, .bool false, .int .u8 0, .int .i64 0, .int .i64 0, .int .i64 0, .int .i64 0]), 7, 40) := by kernel_rfl
theorem cells_seven (l : List Ins) : ∀ cs ∈ l.map Ins.cells, cs.length = 7 := fun cs h => by
 obtain ⟨s, _, rfl⟩ := List.mem_map.1 h
 rfl
abbrev insB (i : Ins) : Obj := .cells #[.int .u8 i.op, .bool i.right, .int .u8 i.bed, .int .i64 i.at_, .int .i64 i.to_, .int .i64 i.car, .int .i64 i.rack] 63
def pxO (v : Value) (l : List Ins) : Own := ⟨63, 7, l.length, v, (l.map Ins.cells).flatten⟩
theorem pxO_app {w : World} {B c : Nat} {a : Option Addr} {l : List Ins} {L : List Own} (h : Owns w B (pxO (.slice a l.length c) l :: L)) (hB : B ≤ w.heap.size) (hl : l.length ≤ 100000) (x : Ins) :
 ∃ A' c' w', (Builtin.append_ #[29, 29] 29 #[.slice a l.length c, .slice (some ⟨w.heap.size, 0, none⟩) 1 1]).run Tryz.prog (w.alloc (insB x)) = .ok (.slice A' (l.length + 1) c') w' ∧ Owns w' B (pxO (.slice A' (l.length + 1) c') (l ++ [x]) :: L) ∧ Below B w w' := by
 obtain ⟨ii, hii, hii0, hii1, hii2⟩ := info_parts info_insT
 have hal := al_t w (insB x)
 have h9 := h.to hal
 have h0 : (w.alloc (insB x)).ownsRow B 63 7 (.slice a l.length c) l.length (l.map Ins.cells).flatten := h9.head
 have hsz := hal.size
 obtain ⟨A', c', w', hr, ho, hg, hn⟩ := run_app_any Tryz.underlying29 hii hii0 hii1 hii2 rfl (by decide) h0 (some ⟨w.heap.size, 0, none⟩) 1 1 x.cells rfl (fun e => by cases e) (fun ad e j u hu => by
  cases e
  have hj : j < 7 := (List.getElem?_eq_some_iff.1 hu).1
  have ha : (⟨w.heap.size, 0, none⟩ : Addr).add j = ⟨w.heap.size, j, none⟩ := by unfold Addr.add; split <;> simp_all
  rw [ha]
  refine cell_new rfl rfl ?_
  rw [← hu]
  rcases (by omega : j = 0 ∨ j = 1 ∨ j = 2 ∨ j = 3 ∨ j = 4 ∨ j = 5 ∨ j = 6) with rfl | rfl | rfl | rfl | rfl | rfl | rfl <;> rfl) (fun u hu => by
  obtain ⟨j, hj⟩ := List.mem_iff_getElem?.1 hu
  have hj7 : j < 7 := (List.getElem?_eq_some_iff.1 hj).1
  rcases (by omega : j = 0 ∨ j = 1 ∨ j = 2 ∨ j = 3 ∨ j = 4 ∨ j = 5 ∨ j = 6) with rfl | rfl | rfl | rfl | rfl | rfl | rfl <;> (cases hj; rfl)) (by unfold maxLen; omega) (by omega) (by omega)
 refine ⟨A', c', w', hr, ?_, (hal.mono hB).trans (Below.of_grown hg (by omega) (fun k e => (World.ownsRow.lt h0 k e).1))⟩
 refine h9.turn (o' := pxO (.slice A' (l.length + 1) c') (l ++ [x])) hg ?_ hn
 unfold pxO Own.lies
 rw [List.length_append, List.map_append, List.flatten_append]
 simpa using ho
theorem pxO_form {w : World} {B : Nat} {v : Value} {O : List Ins} {L : List Own} (h : Owns w B (pxO v O :: L)) : ∃ a c, v = .slice a O.length c := by
 have h0 : w.ownsRow B 63 7 v O.length (O.map Ins.cells).flatten := h.head
 rcases h0.2 with ⟨rfl, e⟩ | ⟨g, cap, cur, rfl, -⟩
 · rw [e]; exact ⟨none, 0, rfl⟩
 · exact ⟨_, _, rfl⟩
theorem pxO_sl {w : World} {B : Nat} {a : Option Addr} {c : Nat} {O : List Ins} {L : List Own} (h : Owns w B (pxO (.slice a O.length c) O :: L)) : SlX w w.heap.size a O := by
 have h0 : w.ownsRow B 63 7 (.slice a O.length c) O.length (O.map Ins.cells).flatten := h.head
 exact SlS.of_own (cells_seven O) (by rw [List.length_map]) h0
theorem al_b {B : Nat} {W0 W : World} (h : Below B W0 W) (hB : B ≤ W0.heap.size) (o : Obj) : Below B W0 (W.alloc o) := h.alloc (Nat.le_trans hB h.size) o
theorem al_s {W0 W : World} (h : Below W0.heap.size W0 W) (o : Obj) : Below W0.heap.size W0 (W.alloc o) := al_b h (Nat.le_refl _) o
theorem step_append_ex {P : Program} {ops : Array Oper} {o : Oper} {a : Act} {w : World} {K : Act → World → Prop} {Q : Exit → Act → World → Prop} {E : Prop}
 (hg : o.guard = none) (d x : Operand) (dT sT : TypeId) (hop : o.op = Op.call { callee := Callee.builtin Builtin.append, args := #[d, x], argTypes := #[dT, sT] })
 (v u : Value) (hd : a.eval d = v) (hx : a.eval x = u) {R : Value → World → Prop} (hr : ∃ v' w', (Builtin.append_ #[dT, sT] o.type #[v, u]).run P w = .ok v' w' ∧ R v' w') (hK : ∀ v' w', R v' w' → K (a.put o.dst v') w') :
 if Region.wanted o (yielded ops a.tmps) = true then Oper.wp P o a w K Q else E := by
 obtain ⟨v', w', h1, h2⟩ := hr
 have hw : Region.wanted o (yielded ops a.tmps) = true := by simp [Region.wanted, hg]
 rw [if_pos hw]
 unfold Oper.wp
 simp [execOp, hop, resolve, invoke, builtin, hd, hx, h1, Result.andThen]
 exact hK v' w' h2
set_option maxHeartbeats 2000000 in
theorem poff_ex (A F : Option Addr) (c fc : Nat) (s : Sft) (mb : Nat) (hs : SftOk s) (i : Nat) (hi : i < s.n) (w : World) (h : SfAt A F s w) :
 Calls Tryz.prog 51 #[wkV A F c fc s mb, .int .i64 (i : Int)] w fun e w' => e = .returned (.int .i64 (offN s i)) ∧ w' = w.alloc (wkB A F c fc s mb) := by
 have hbx := WkBx.new c fc mb h
 obtain ⟨b, off, z, hA, -, hzz, hcl⟩ := hbx.at_.tz.at_ (k := i) hi
 have c0 := hbx.c0
 obtain ⟨h0, h1, -⟩ := hs.to_ i hi
 have hn := hs.len
 have hz : s.to_.getD i 0 = z := by rw [List.getD_eq_getElem?_getD, hzz]; rfl
 have HF : Hid (offN s i = z - (i : Int)) := by show _ = _; unfold offN; rw [hz]
 rw [hz] at h0 h1
 have hi' : i < s.to_.length := hi
 have hn' : s.to_.length ≤ 40 := hn
 subst hA
 clear h hbx hz hi hn hzz hs
 go_enter Tryz.func51, Tryz.ntmps51
 go_wp2
 go_ret
 exact ⟨ret_int HF.out.symm, rfl⟩
def bgC (s : Sft) (i : Nat) (t : Int) : List Int := ((List.range i).filter (atN s (fun _ => false) t)).map fun i : Nat => (i : Int)
theorem bgC_zero (s : Sft) : bgC s 0 = fun _ => [] := rfl
theorem bgC_len (s : Sft) (i : Nat) (t : Int) : (bgC s i t).length ≤ i := by
 unfold bgC
 rw [List.length_map]
 have := List.length_filter_le (atN s (fun _ => false) t) (List.range i)
 rwa [List.length_range] at this
theorem bgC_next {s : Sft} {i : Nat} (h : movedN s i = true) : bgC s (i + 1) = upd (bgC s i) (offN s i) (bgC s i (offN s i) ++ [(i : Int)]) := by
 funext t
 have e : bgC s (i + 1) t = bgC s i t ++ if offN s i = t then [(i : Int)] else [] := by
  unfold bgC
  rw [List.range_succ, List.filter_append, List.map_append]
  congr 1
  by_cases ht : offN s i = t
  · rw [if_pos ht, List.filter_cons_of_pos (by unfold atN waitN; rw [h, decide_eq_true ht]; rfl)]; rfl
  · rw [if_neg ht, List.filter_cons_of_neg (by unfold atN; rw [decide_eq_false ht]; simp)]; rfl
 rw [e]
 by_cases ht : t = offN s i
 · subst ht; rw [if_pos rfl, upd_same]
 · rw [if_neg (fun e => ht e.symm), upd_other _ _ ht, List.append_nil]
theorem bgC_skip {s : Sft} {i : Nat} (h : movedN s i = false) : bgC s (i + 1) = bgC s i := by
 funext t
 unfold bgC
 rw [List.range_succ, List.filter_append, List.map_append, List.filter_cons_of_neg (by unfold atN waitN; rw [h]; simp)]
 simp
structure BgM (w : World) (rb wb mb : Nat) (A F : Option Addr) (c fc : Nat) (s : Sft) (i n : Nat) (G : Int → Option Value) (W : World) : Prop where
 c0 : W.cell? ⟨wb, 0, none⟩ = some (.slice A s.to_.length c)
 c1 : W.cell? ⟨wb, 1, none⟩ = some (.slice F s.first.length fc)
 c2 : W.cell? ⟨wb, 2, none⟩ = some (.map (some mb))
 r0 : W.cell? ⟨rb, 0, none⟩ = some (.slice none 0 0)
 r1 : W.cell? ⟨rb, 1, none⟩ = some (.slice none 0 0)
 r2 : W.cell? ⟨rb, 2, none⟩ = some (.map none)
 rf : ∀ k, W.frozen? ⟨rb, k, none⟩ = false
 bl : Below w.heap.size w W
 mp : MpR W w.heap.size mb n G (bgC s i)
 nn : n ≤ i
 dom : ∀ t, (G t).isSome = decide (bgC s i t ≠ [])
 aw : ∀ t, (vRow G t).ownBlock ≠ some wb
 ar : ∀ t, (vRow G t).ownBlock ≠ some rb
 mw : mb ≠ wb
 mr : mb ≠ rb
theorem BgM.to {w W W' : World} {rb wb mb : Nat} {A F : Option Addr} {c fc : Nat} {s : Sft} {i n : Nat} {G : Int → Option Value} (h : BgM w rb wb mb A F c fc s i n G W) (hb : Below W.heap.size W W') : BgM w rb wb mb A F c fc s i n G W' :=
 ⟨(bcell hb (lt_of_cell h.c0) _).trans h.c0, (bcell hb (lt_of_cell h.c1) _).trans h.c1, (bcell hb (lt_of_cell h.c2) _).trans h.c2,
  (bcell hb (lt_of_cell h.r0) _).trans h.r0, (bcell hb (lt_of_cell h.r1) _).trans h.r1, (bcell hb (lt_of_cell h.r2) _).trans h.r2,
  fun k => (Below.frozen hb (p := ⟨rb, k, none⟩) (lt_of_cell h.r0)).trans (h.rf k), h.bl.trans (hb.mono h.bl.size), h.mp.to hb, h.nn, h.dom, h.aw, h.ar, h.mw, h.mr⟩
theorem BgM.skip {w W : World} {rb wb mb : Nat} {A F : Option Addr} {c fc : Nat} {s : Sft} {i n : Nat} {G : Int → Option Value} (h : BgM w rb wb mb A F c fc s i n G W) (hm : movedN s i = false) : BgM w rb wb mb A F c fc s (i + 1) n G W :=
 ⟨h.c0, h.c1, h.c2, h.r0, h.r1, h.r2, h.rf, h.bl, by rw [bgC_skip hm]; exact h.mp, by have := h.nn; omega, by rw [bgC_skip hm]; exact h.dom, h.aw, h.ar, h.mw, h.mr⟩
theorem BgM.step {w W : World} {rb wb mb : Nat} {A F : Option Addr} {c fc : Nat} {s : Sft} {i n : Nat} {G : Int → Option Value} (h : BgM w rb wb mb A F c fc s i n G W) (hs : SfAt A F s w) (ho : SftOk s) (hi : i < s.n) (hm : movedN s i = true)
 {a : Option Addr} {k : Nat} (hv : vRow G (offN s i) = .slice a (bgC s i (offN s i)).length k) (g : Nat) (hg : W.cell? ⟨g, 0, none⟩ = some (.int .i64 (i : Int))) :
 ∃ v' w2, (Builtin.append_ #[22, 22] 22 #[.slice a (bgC s i (offN s i)).length k, .slice (some ⟨g, 0, none⟩) 1 1]).run Tryz.prog W = .ok v' w2 ∧
   ∃ A' c', v' = .slice A' ((bgC s i (offN s i)).length + 1) c' ∧ w2.cell? ⟨wb, 0, none⟩ = some (.slice A s.to_.length c) ∧ w2.cell? ⟨wb, 1, none⟩ = some (.slice F s.first.length fc) ∧ w2.cell? ⟨wb, 2, none⟩ = some (.map (some mb)) ∧ SfAt A F s w2 ∧
   ∀ W3, Below w2.heap.size w2 W3 → W3.cell? ⟨wb, 0, none⟩ = some (.slice A s.to_.length c) ∧ W3.cell? ⟨wb, 1, none⟩ = some (.slice F s.first.length fc) ∧ W3.cell? ⟨wb, 2, none⟩ = some (.map (some mb)) ∧
     ∃ w4, (Instr.mapUpdate 79 (.map (some mb)) (.int .i64 (offN s i)) v').run Tryz.prog W3 = .ok () w4 ∧ BgM w rb wb mb A F c fc s (i + 1) (n + 1) (upd G (offN s i) (some v')) w4 := by
 have hor := (ho.to_ i hi).2.2
 have hn := ho.len
 have hwf : wfK (offN s i) := wfK_small hor.1 hor.2
 have hl := bgC_len s i (offN s i)
 obtain ⟨A', c', w2, hr, ht, hgr, hnb⟩ := h.mp.app (offN s i) (i : Int) g hg (by omega)
 rw [hv] at hr hgr hnb
 have hap := h.aw (offN s i)
 have har := h.ar (offN s i)
 rw [hv] at hap har
 have hrow := h.mp.lt (offN s i)
 rw [hv] at hrow
 have kp : ∀ {b o : Nat} {v : Value}, W.cell? ⟨b, o, none⟩ = some v → (Value.slice a (bgC s i (offN s i)).length k).ownBlock ≠ some b → w2.cell? ⟨b, o, none⟩ = some v := fun h1 h2 => hgr.cell h1 (fun e => h2 e.symm)
 have hbl : Below w.heap.size w w2 := h.bl.grown hgr h.bl.size (fun k e => (hrow k e).1)
 have hsz := hgr.size
 refine ⟨_, w2, hr, A', c', rfl, kp h.c0 hap, kp h.c1 hap, kp h.c2 hap, hs.to hbl, fun W3 hb3 => ?_⟩
 have ht3 := ht.to hb3
 obtain ⟨w4, h4, hm4, hg4⟩ := ht3.put (by have := h.nn; unfold maxLen; omega) hwf
 have kp3 : ∀ {b o : Nat} {v : Value}, w2.cell? ⟨b, o, none⟩ = some v → W3.cell? ⟨b, o, none⟩ = some v := fun h1 => (bcell hb3 (lt_of_cell h1) _).trans h1
 have kp4 : ∀ {b o : Nat} {v : Value}, W3.cell? ⟨b, o, none⟩ = some v → mb ≠ b → w4.cell? ⟨b, o, none⟩ = some v := fun h1 h2 => hg4.cell h1 (fun e => h2 (Option.some.inj e).symm)
 have q0 := kp3 (kp h.c0 hap)
 have q1 := kp3 (kp h.c1 hap)
 have q2 := kp3 (kp h.c2 hap)
 have hgt : ∀ t k, (vRow (upd G (offN s i) (some (.slice A' ((bgC s i (offN s i)).length + 1) c'))) t).ownBlock = some k → (∀ u, (vRow G u).ownBlock ≠ some k) → W.heap.size ≤ k := fun t k e hk => by
  by_cases et : t = offN s i
  · subst et
    rw [vRow_same] at e
    rcases hnb k e with h1 | h1
    · exact absurd (by rw [hv]; exact h1) (hk (offN s i))
    · exact h1
  · rw [vRow_other _ _ et] at e
    exact absurd e (hk t)
 refine ⟨q0, q1, q2, w4, h4, ⟨kp4 q0 h.mw, kp4 q1 h.mw, kp4 q2 h.mw, kp4 (kp3 (kp h.r0 har)) h.mr, kp4 (kp3 (kp h.r1 har)) h.mr, kp4 (kp3 (kp h.r2 har)) h.mr, fun k => ?_, ?_, ?_, by have := h.nn; omega, fun t => ?_, fun t e => ?_, fun t e => ?_, h.mw, h.mr⟩⟩
 · have hrl := lt_of_cell h.r0
   rw [World.frozen?_of_block (a := ⟨rb, k, none⟩) (hg4.block rb (by have := hb3.size; omega) (fun e => h.mr (Option.some.inj e).symm)), Below.frozen hb3 (p := ⟨rb, k, none⟩) (by show rb < _; omega), World.frozen?_of_block (a := ⟨rb, k, none⟩) (hgr.block rb hrl (fun e => har e.symm))]
   exact h.rf k
 · exact (hbl.trans (hb3.mono hbl.size)).grown hg4 (Nat.le_trans hbl.size hb3.size) (fun k e => by cases e; exact h.mp.lo)
 · rw [bgC_next hm]; exact hm4
 · rw [bgC_next hm]
   by_cases et : t = offN s i
   · subst et; rw [upd_same, upd_same]; simp
   · rw [upd_other _ _ et, upd_other _ _ et]; exact h.dom t
 · have := hgt t wb e h.aw
   have := lt_of_cell h.c0
   omega
 · have := hgt t rb e h.ar
   have := lt_of_cell h.r0
   omega
theorem poff_later {A F : Option Addr} (c fc : Nat) {s : Sft} (mb : Nat) (hs : SftOk s) {W0 : World} (h : SfAt A F s W0) :
 ∀ (i : Nat) (W : World), i < s.n → Below W0.heap.size W0 W → Calls Tryz.prog 51 #[wkV A F c fc s mb, .int .i64 (i : Int)] W fun e w' => e = .returned (.int .i64 (offN s i)) ∧ Below W.heap.size W w' := fun i W hi hb =>
 poff_any A F c fc s mb hs i hi W (h.to hb)
set_option maxHeartbeats 16000000 in
theorem pstop1_any (A F : Option Addr) (c fc : Nat) (s : Sft) (mb wb tb : Nat) (hs : SftOk s) (come : Nat → Bool) (t : Int) (p : Int × Int) (hp : p ∈ s.first) (w : World) (h : WkBx wb A F c fc s mb w) (ht : w.cell? ⟨tb, 0, none⟩ = some (.int .i64 t)) (hw : WtA mb s come w) :
 Calls Tryz.prog 50 #[pairV p, .pointer (some ⟨wb, 0, none⟩), .pointer (some ⟨tb, 0, none⟩)] w fun e w' => e = .returned (.bool (holdsS s come t p)) ∧ Below w.heap.size w w' := by
 obtain ⟨hp1, hp2, hp3, hp4, -⟩ := hs.first p hp
 obtain ⟨x, y⟩ := p
 simp only at hp1 hp2 hp3 hp4
 obtain ⟨an, rfl⟩ : ∃ an : Nat, x = (an : Int) := ⟨x.toNat, by omega⟩
 obtain ⟨bn, rfl⟩ : ∃ bn : Nat, y = (bn : Int) := ⟨y.toNat, by omega⟩
 have hal : an < s.n := by omega
 have hbl : bn < s.n := by omega
 have hH : holdsS s come t ((an : Int), (bn : Int)) = (decide (offN s bn = t) && (decide (offN s an ≠ t) && waitN s come an)) := by
  unfold holdsS
  rw [Int.toNat_natCast, Int.toNat_natCast]
 have hb1 := al_t w (.cells #[.int .i64 (an : Int), .int .i64 (bn : Int)] 48)
 have HB := Lib.hid hb1
 have hx1 := h.to hb1
 have HSb : Hid (∀ W', Below (w.alloc (.cells #[.int .i64 (an : Int), .int .i64 (bn : Int)] 48)).heap.size (w.alloc (.cells #[.int .i64 (an : Int), .int .i64 (bn : Int)] 48)) W' → W'.cell? ⟨wb, 0, none⟩ = some (.slice A s.to_.length c) ∧ W'.cell? ⟨wb, 1, none⟩ = some (.slice F s.first.length fc) ∧ W'.cell? ⟨wb, 2, none⟩ = some (.map (some mb)) ∧ W'.cell? ⟨tb, 0, none⟩ = some (.int .i64 t) ∧ W'.cell? ⟨w.heap.size, 0, none⟩ = some (.int .i64 (an : Int)) ∧ W'.cell? ⟨w.heap.size, 1, none⟩ = some (.int .i64 (bn : Int)) ∧ Below (w.alloc (.cells #[.int .i64 (an : Int), .int .i64 (bn : Int)] 48)).heap.size (w.alloc (.cells #[.int .i64 (an : Int), .int .i64 (bn : Int)] 48)) W') := fun W' hb =>
  ⟨(hx1.to hb).c0, (hx1.to hb).c1, (hx1.to hb).c2, (bcell (hb1.trans (hb.mono hb1.size)) (lt_of_cell ht) _).trans ht, (bcell hb (by simp) _).trans (cell_new rfl rfl rfl), (bcell hb (by simp) _).trans (cell_new rfl rfl rfl), hb⟩
 have HOb : Hid (∀ W, (W.cell? ⟨wb, 0, none⟩ = some (.slice A s.to_.length c) ∧ W.cell? ⟨wb, 1, none⟩ = some (.slice F s.first.length fc) ∧ W.cell? ⟨wb, 2, none⟩ = some (.map (some mb)) ∧ W.cell? ⟨tb, 0, none⟩ = some (.int .i64 t) ∧ W.cell? ⟨w.heap.size, 0, none⟩ = some (.int .i64 (an : Int)) ∧ W.cell? ⟨w.heap.size, 1, none⟩ = some (.int .i64 (bn : Int)) ∧ Below (w.alloc (.cells #[.int .i64 (an : Int), .int .i64 (bn : Int)] 48)).heap.size (w.alloc (.cells #[.int .i64 (an : Int), .int .i64 (bn : Int)] 48)) W) → Calls Tryz.prog 51 #[wkV A F c fc s mb, .int .i64 (bn : Int)] W fun e w' => e = .returned (.int .i64 (offN s bn)) ∧ Below W.heap.size W w') := fun W hS => poff_later c fc mb hs hx1.at_ bn W hbl hS.2.2.2.2.2.2
 have HOa : Hid (∀ W, (W.cell? ⟨wb, 0, none⟩ = some (.slice A s.to_.length c) ∧ W.cell? ⟨wb, 1, none⟩ = some (.slice F s.first.length fc) ∧ W.cell? ⟨wb, 2, none⟩ = some (.map (some mb)) ∧ W.cell? ⟨tb, 0, none⟩ = some (.int .i64 t) ∧ W.cell? ⟨w.heap.size, 0, none⟩ = some (.int .i64 (an : Int)) ∧ W.cell? ⟨w.heap.size, 1, none⟩ = some (.int .i64 (bn : Int)) ∧ Below (w.alloc (.cells #[.int .i64 (an : Int), .int .i64 (bn : Int)] 48)).heap.size (w.alloc (.cells #[.int .i64 (an : Int), .int .i64 (bn : Int)] 48)) W) → Calls Tryz.prog 51 #[wkV A F c fc s mb, .int .i64 (an : Int)] W fun e w' => e = .returned (.int .i64 (offN s an)) ∧ Below W.heap.size W w') := fun W hS => poff_later c fc mb hs hx1.at_ an W hal hS.2.2.2.2.2.2
 have HWa : Hid (∀ W, (W.cell? ⟨wb, 0, none⟩ = some (.slice A s.to_.length c) ∧ W.cell? ⟨wb, 1, none⟩ = some (.slice F s.first.length fc) ∧ W.cell? ⟨wb, 2, none⟩ = some (.map (some mb)) ∧ W.cell? ⟨tb, 0, none⟩ = some (.int .i64 t) ∧ W.cell? ⟨w.heap.size, 0, none⟩ = some (.int .i64 (an : Int)) ∧ W.cell? ⟨w.heap.size, 1, none⟩ = some (.int .i64 (bn : Int)) ∧ Below (w.alloc (.cells #[.int .i64 (an : Int), .int .i64 (bn : Int)] 48)).heap.size (w.alloc (.cells #[.int .i64 (an : Int), .int .i64 (bn : Int)] 48)) W) → Calls Tryz.prog 52 #[wkV A F c fc s mb, .int .i64 (an : Int)] W fun e w' => e = .returned (.bool (waitN s come an)) ∧ Below W.heap.size W w') := fun W hS => pwaiting_any A F c fc s mb hs come an hal W (hx1.at_.to hS.2.2.2.2.2.2) ((hw.to hb1).to hS.2.2.2.2.2.2)
 have y0 : (w.alloc (.cells #[.int .i64 (an : Int), .int .i64 (bn : Int)] 48)).cell? ⟨w.heap.size, 0, none⟩ = some (.int .i64 (an : Int)) := cell_new rfl rfl rfl
 obtain ⟨r, hr⟩ : ∃ r, r = holdsS s come t ((an : Int), (bn : Int)) := ⟨_, rfl⟩
 rw [← hr] at hH ⊢
 obtain ⟨ob, hob⟩ : ∃ ob, ob = offN s bn := ⟨_, rfl⟩
 obtain ⟨oa, hoa⟩ : ∃ oa, oa = offN s an := ⟨_, rfl⟩
 obtain ⟨q, hq⟩ : ∃ q, q = waitN s come an := ⟨_, rfl⟩
 rw [← hob, ← hoa, ← hq] at hH
 simp only [← hob] at HOb
 simp only [← hoa] at HOa
 simp only [← hq] at HWa
 have HH := Lib.hid hH
 clear h ht hw hx1 hb1 hr hob hoa hq hH hs hp hp1 hp2 hp3 hp4 hal hbl y0
 go_enter Tryz.func50, Tryz.ntmps50
 go_wp2
 cases b1 : (ob == t) with
 | false =>
   have HR : Hid (r = false) := by show _ = _; rw [HH.out, decide_eq_false (beq_eq_false_iff_ne.1 b1)]; rfl
   clear HH
   refine wp_region_held_drew (S := fun W' => W'.cell? ⟨wb, 0, none⟩ = some (.slice A s.to_.length c) ∧ W'.cell? ⟨wb, 1, none⟩ = some (.slice F s.first.length fc) ∧ W'.cell? ⟨wb, 2, none⟩ = some (.map (some mb)) ∧ W'.cell? ⟨tb, 0, none⟩ = some (.int .i64 t) ∧ W'.cell? ⟨w.heap.size, 0, none⟩ = some (.int .i64 (an : Int)) ∧ W'.cell? ⟨w.heap.size, 1, none⟩ = some (.int .i64 (bn : Int)) ∧ Below (w.alloc (.cells #[.int .i64 (an : Int), .int .i64 (bn : Int)] 48)).heap.size (w.alloc (.cells #[.int .i64 (an : Int), .int .i64 (bn : Int)] 48)) W') (by kernel_rfl) (HSb.out _ (Below.drew (Below.refl _ _))) (fun hHeld => ?_)
   refine wpAnyH_take (i := 0) (v := ?_) rfl (by kernel_rfl) (by kernel_rfl) (by kernel_rfl) (fun _ _ _ h => h) (Or.inl ⟨by rfl, ?_⟩) (by assumption) ?_
   rotate_left
   · (intro w hSw; (try dsimp only at hSw); go_simp; try with_reducible rfl)
   simp only [Act.put, List.getElem_toArray, List.getElem_cons_zero, List.setIfInBounds_toArray, List.set_cons_zero, List.set_cons_succ]
   refine wpAnyH_take (i := 1) (v := ?_) rfl (by kernel_rfl) (by kernel_rfl) (by kernel_rfl) (fun _ _ _ h => h) (Or.inl ⟨by rfl, ?_⟩) (by assumption) ?_
   rotate_left
   · (intro w hSw; (try dsimp only at hSw); go_simp; try with_reducible rfl)
   simp only [Act.put, List.getElem_toArray, List.getElem_cons_zero, List.getElem_cons_succ, List.setIfInBounds_toArray, List.set_cons_zero, List.set_cons_succ]
   refine wpAnyH_take (i := 2) (v := ?_) rfl (by kernel_rfl) (by kernel_rfl) (by kernel_rfl) (fun _ _ _ h => h) (Or.inl ⟨by rfl, ?_⟩) (by assumption) ?_
   rotate_left
   · (intro w hSw; (try dsimp only at hSw); go_simp; try with_reducible rfl)
   simp only [Act.put, List.getElem_toArray, List.getElem_cons_zero, List.getElem_cons_succ, List.setIfInBounds_toArray, List.set_cons_zero, List.set_cons_succ]
   refine wpAnyH_take (i := 4) (v := ?_) rfl (by kernel_rfl) (by kernel_rfl) (by kernel_rfl) (fun _ _ _ h => h) (Or.inl ⟨by rfl, ?_⟩) (by assumption) ?_
   rotate_left
   · (intro w hSw; (try dsimp only at hSw); go_simp; try with_reducible rfl)
   simp only [Act.put, List.getElem_toArray, List.getElem_cons_zero, List.getElem_cons_succ, List.setIfInBounds_toArray, List.set_cons_zero, List.set_cons_succ]
   refine wpAnyH_ready (rs := [3]) (by kernel_rfl) (by simp) ?_
   refine AllReadyH.cons rfl (fun K hK => ?_) AllReadyH.nil
   go_simp
   go_at_call 51
   have hp := hHeld
   refine (HOb.out _ hp).mono ?_
   rintro e wd ⟨rfl, hbd⟩
   have hbw := hp.2.2.2.2.2.2.trans (hbd.mono hp.2.2.2.2.2.2.size)
   clear hp hbd hHeld
   go_wp2_with fail
   refine hK.out _ _ (HSb.out _ hbw) (fun hHeld => ?_)
   clear hK K hbw
   refine wpAnyH_take (i := 5) (v := ?_) rfl (by kernel_rfl) (by kernel_rfl) (by kernel_rfl) (fun _ _ _ h => h) (Or.inl ⟨by rfl, ?_⟩) (by assumption) ?_
   rotate_left
   · (intro w hSw; (try dsimp only at hSw); go_simp; try with_reducible rfl)
   simp only [Act.put, List.getElem_toArray, List.getElem_cons_zero, List.getElem_cons_succ, List.setIfInBounds_toArray, List.set_cons_zero, List.set_cons_succ]
   refine wpAnyH_take (i := 6) (v := ?_) rfl (by kernel_rfl) (by kernel_rfl) (by kernel_rfl) (fun _ _ _ h => h) (Or.inl ⟨by rfl, ?_⟩) (by assumption) ?_
   rotate_left
   · (intro w hSw; (try dsimp only at hSw); go_simp; try with_reducible rfl)
   simp only [Act.put, List.getElem_toArray, List.getElem_cons_zero, List.getElem_cons_succ, List.setIfInBounds_toArray, List.set_cons_zero, List.set_cons_succ]
   refine wpAnyH_take (i := 7) (v := undef) rfl (by kernel_rfl) (by kernel_rfl) (by kernel_rfl) (fun _ _ _ h => h) (Or.inr ⟨by kernel_rfl, rfl⟩) (by assumption) ?_
   simp only [Act.put, List.getElem_toArray, List.getElem_cons_zero, List.getElem_cons_succ, List.setIfInBounds_toArray, List.set_cons_zero, List.set_cons_succ]
   refine wpAnyH_take (i := 8) (v := undef) rfl (by kernel_rfl) (by kernel_rfl) (by kernel_rfl) (fun _ _ _ h => h) (Or.inr ⟨by kernel_rfl, rfl⟩) (by assumption) ?_
   simp only [Act.put, List.getElem_toArray, List.getElem_cons_zero, List.getElem_cons_succ, List.setIfInBounds_toArray, List.set_cons_zero, List.set_cons_succ]
   refine wpAnyH_take (i := 9) (v := undef) rfl (by kernel_rfl) (by kernel_rfl) (by kernel_rfl) (fun _ _ _ h => h) (Or.inr ⟨by kernel_rfl, rfl⟩) (by assumption) ?_
   simp only [Act.put, List.getElem_toArray, List.getElem_cons_zero, List.getElem_cons_succ, List.setIfInBounds_toArray, List.set_cons_zero, List.set_cons_succ]
   refine wpAnyH_take (i := 10) (v := undef) rfl (by kernel_rfl) (by kernel_rfl) (by kernel_rfl) (fun _ _ _ h => h) (Or.inr ⟨by kernel_rfl, rfl⟩) (by assumption) ?_
   simp only [Act.put, List.getElem_toArray, List.getElem_cons_zero, List.getElem_cons_succ, List.setIfInBounds_toArray, List.set_cons_zero, List.set_cons_succ]
   refine wpAnyH_take (i := 11) (v := undef) rfl (by kernel_rfl) (by kernel_rfl) (by kernel_rfl) (fun _ _ _ h => h) (Or.inr ⟨by kernel_rfl, rfl⟩) (by assumption) ?_
   simp only [Act.put, List.getElem_toArray, List.getElem_cons_zero, List.getElem_cons_succ, List.setIfInBounds_toArray, List.set_cons_zero, List.set_cons_succ]
   refine wpAnyH_take (i := 12) (v := undef) rfl (by kernel_rfl) (by kernel_rfl) (by kernel_rfl) (fun _ _ _ h => h) (Or.inr ⟨by kernel_rfl, rfl⟩) (by assumption) ?_
   simp only [Act.put, List.getElem_toArray, List.getElem_cons_zero, List.getElem_cons_succ, List.setIfInBounds_toArray, List.set_cons_zero, List.set_cons_succ]
   refine wpAnyH_take (i := 13) (v := ?_) rfl (by kernel_rfl) (by kernel_rfl) (by kernel_rfl) (fun _ _ _ h => h) (Or.inl ⟨by rfl, ?_⟩) (by assumption) ?_
   rotate_left
   · (intro w hSw; (try dsimp only at hSw); go_simp; try with_reducible rfl)
   simp only [Act.put, List.getElem_toArray, List.getElem_cons_zero, List.getElem_cons_succ, List.setIfInBounds_toArray, List.set_cons_zero, List.set_cons_succ]
   refine wpAnyH_take (i := 14) (v := ?_) rfl (by kernel_rfl) (by kernel_rfl) (by kernel_rfl) (fun _ _ _ h => h) (Or.inl ⟨by rfl, ?_⟩) (by assumption) ?_
   rotate_left
   · (intro w hSw; (try dsimp only at hSw); go_simp; try with_reducible rfl)
   simp only [Act.put, List.getElem_toArray, List.getElem_cons_zero, List.getElem_cons_succ, List.setIfInBounds_toArray, List.set_cons_zero, List.set_cons_succ]
   refine wpAnyH_take (i := 15) (v := undef) rfl (by kernel_rfl) (by kernel_rfl) (by kernel_rfl) (fun _ _ _ h => h) (Or.inr ⟨by kernel_rfl, rfl⟩) (by assumption) ?_
   simp only [Act.put, List.getElem_toArray, List.getElem_cons_zero, List.getElem_cons_succ, List.setIfInBounds_toArray, List.set_cons_zero, List.set_cons_succ]
   refine wpAnyH_take (i := 16) (v := undef) rfl (by kernel_rfl) (by kernel_rfl) (by kernel_rfl) (fun _ _ _ h => h) (Or.inr ⟨by kernel_rfl, rfl⟩) (by assumption) ?_
   simp only [Act.put, List.getElem_toArray, List.getElem_cons_zero, List.getElem_cons_succ, List.setIfInBounds_toArray, List.set_cons_zero, List.set_cons_succ]
   refine wpAnyH_take (i := 17) (v := undef) rfl (by kernel_rfl) (by kernel_rfl) (by kernel_rfl) (fun _ _ _ h => h) (Or.inr ⟨by kernel_rfl, rfl⟩) (by assumption) ?_
   simp only [Act.put, List.getElem_toArray, List.getElem_cons_zero, List.getElem_cons_succ, List.setIfInBounds_toArray, List.set_cons_zero, List.set_cons_succ]
   refine wpAnyH_take (i := 18) (v := undef) rfl (by kernel_rfl) (by kernel_rfl) (by kernel_rfl) (fun _ _ _ h => h) (Or.inr ⟨by kernel_rfl, rfl⟩) (by assumption) ?_
   simp only [Act.put, List.getElem_toArray, List.getElem_cons_zero, List.getElem_cons_succ, List.setIfInBounds_toArray, List.set_cons_zero, List.set_cons_succ]
   refine wpAnyH_take (i := 19) (v := ?_) rfl (by kernel_rfl) (by kernel_rfl) (by kernel_rfl) (fun _ _ _ h => h) (Or.inl ⟨by rfl, ?_⟩) (by assumption) ?_
   rotate_left
   · (intro w hSw; (try dsimp only at hSw); go_simp; try with_reducible rfl)
   simp only [Act.put, List.getElem_toArray, List.getElem_cons_zero, List.getElem_cons_succ, List.setIfInBounds_toArray, List.set_cons_zero, List.set_cons_succ]
   refine wpAnyH_take (i := 20) (v := ?_) rfl (by kernel_rfl) (by kernel_rfl) (by kernel_rfl) (fun _ _ _ h => h) (Or.inl ⟨by rfl, ?_⟩) (by assumption) ?_
   rotate_left
   · (intro w hSw; (try dsimp only at hSw); go_simp; try with_reducible rfl)
   simp only [Act.put, List.getElem_toArray, List.getElem_cons_zero, List.getElem_cons_succ, List.setIfInBounds_toArray, List.set_cons_zero, List.set_cons_succ]
   refine wpAnyH_done (by kernel_rfl) ?_ _
   have HB9 := Lib.hid hHeld.2.2.2.2.2.2
   clear hHeld
   go_wp2
   go_ret
   exact ⟨ret_bool HR.out.symm, HB.out.trans (HB9.out.mono HB.out.size)⟩
 | true =>
   cases b2 : (oa != t) with
   | false =>
     have HR : Hid (r = false) := by
      show _ = _
      rw [HH.out, decide_eq_true (beq_iff_eq.1 b1), decide_eq_false (by simpa using b2)]; rfl
     clear HH
     refine wp_region_held_drew (S := fun W' => W'.cell? ⟨wb, 0, none⟩ = some (.slice A s.to_.length c) ∧ W'.cell? ⟨wb, 1, none⟩ = some (.slice F s.first.length fc) ∧ W'.cell? ⟨wb, 2, none⟩ = some (.map (some mb)) ∧ W'.cell? ⟨tb, 0, none⟩ = some (.int .i64 t) ∧ W'.cell? ⟨w.heap.size, 0, none⟩ = some (.int .i64 (an : Int)) ∧ W'.cell? ⟨w.heap.size, 1, none⟩ = some (.int .i64 (bn : Int)) ∧ Below (w.alloc (.cells #[.int .i64 (an : Int), .int .i64 (bn : Int)] 48)).heap.size (w.alloc (.cells #[.int .i64 (an : Int), .int .i64 (bn : Int)] 48)) W') (by kernel_rfl) (HSb.out _ (Below.drew (Below.refl _ _))) (fun hHeld => ?_)
     refine wpAnyH_take (i := 0) (v := ?_) rfl (by kernel_rfl) (by kernel_rfl) (by kernel_rfl) (fun _ _ _ h => h) (Or.inl ⟨by rfl, ?_⟩) (by assumption) ?_
     rotate_left
     · (intro w hSw; (try dsimp only at hSw); go_simp; try with_reducible rfl)
     simp only [Act.put, List.getElem_toArray, List.getElem_cons_zero, List.setIfInBounds_toArray, List.set_cons_zero, List.set_cons_succ]
     refine wpAnyH_take (i := 1) (v := ?_) rfl (by kernel_rfl) (by kernel_rfl) (by kernel_rfl) (fun _ _ _ h => h) (Or.inl ⟨by rfl, ?_⟩) (by assumption) ?_
     rotate_left
     · (intro w hSw; (try dsimp only at hSw); go_simp; try with_reducible rfl)
     simp only [Act.put, List.getElem_toArray, List.getElem_cons_zero, List.getElem_cons_succ, List.setIfInBounds_toArray, List.set_cons_zero, List.set_cons_succ]
     refine wpAnyH_take (i := 2) (v := ?_) rfl (by kernel_rfl) (by kernel_rfl) (by kernel_rfl) (fun _ _ _ h => h) (Or.inl ⟨by rfl, ?_⟩) (by assumption) ?_
     rotate_left
     · (intro w hSw; (try dsimp only at hSw); go_simp; try with_reducible rfl)
     simp only [Act.put, List.getElem_toArray, List.getElem_cons_zero, List.getElem_cons_succ, List.setIfInBounds_toArray, List.set_cons_zero, List.set_cons_succ]
     refine wpAnyH_take (i := 4) (v := ?_) rfl (by kernel_rfl) (by kernel_rfl) (by kernel_rfl) (fun _ _ _ h => h) (Or.inl ⟨by rfl, ?_⟩) (by assumption) ?_
     rotate_left
     · (intro w hSw; (try dsimp only at hSw); go_simp; try with_reducible rfl)
     simp only [Act.put, List.getElem_toArray, List.getElem_cons_zero, List.getElem_cons_succ, List.setIfInBounds_toArray, List.set_cons_zero, List.set_cons_succ]
     refine wpAnyH_ready (rs := [3]) (by kernel_rfl) (by simp) ?_
     refine AllReadyH.cons rfl (fun K hK => ?_) AllReadyH.nil
     go_simp
     go_at_call 51
     have hp := hHeld
     refine (HOb.out _ hp).mono ?_
     rintro e wd ⟨rfl, hbd⟩
     have hbw := hp.2.2.2.2.2.2.trans (hbd.mono hp.2.2.2.2.2.2.size)
     clear hp hbd hHeld
     go_wp2_with fail
     refine hK.out _ _ (HSb.out _ hbw) (fun hHeld => ?_)
     clear hK K hbw
     refine wpAnyH_take (i := 5) (v := ?_) rfl (by kernel_rfl) (by kernel_rfl) (by kernel_rfl) (fun _ _ _ h => h) (Or.inl ⟨by rfl, ?_⟩) (by assumption) ?_
     rotate_left
     · (intro w hSw; (try dsimp only at hSw); go_simp; try with_reducible rfl)
     simp only [Act.put, List.getElem_toArray, List.getElem_cons_zero, List.getElem_cons_succ, List.setIfInBounds_toArray, List.set_cons_zero, List.set_cons_succ]
     refine wpAnyH_take (i := 6) (v := ?_) rfl (by kernel_rfl) (by kernel_rfl) (by kernel_rfl) (fun _ _ _ h => h) (Or.inl ⟨by rfl, ?_⟩) (by assumption) ?_
     rotate_left
     · (intro w hSw; (try dsimp only at hSw); go_simp; try with_reducible rfl)
     simp only [Act.put, List.getElem_toArray, List.getElem_cons_zero, List.getElem_cons_succ, List.setIfInBounds_toArray, List.set_cons_zero, List.set_cons_succ]
     refine wpAnyH_take (i := 7) (v := ?_) rfl (by kernel_rfl) (by kernel_rfl) (by kernel_rfl) (fun _ _ _ h => h) (Or.inl ⟨by rfl, ?_⟩) (by assumption) ?_
     rotate_left
     · (intro w hSw; (try dsimp only at hSw); go_simp; try with_reducible rfl)
     simp only [Act.put, List.getElem_toArray, List.getElem_cons_zero, List.getElem_cons_succ, List.setIfInBounds_toArray, List.set_cons_zero, List.set_cons_succ]
     refine wpAnyH_take (i := 8) (v := ?_) rfl (by kernel_rfl) (by kernel_rfl) (by kernel_rfl) (fun _ _ _ h => h) (Or.inl ⟨by rfl, ?_⟩) (by assumption) ?_
     rotate_left
     · (intro w hSw; (try dsimp only at hSw); go_simp; try with_reducible rfl)
     simp only [Act.put, List.getElem_toArray, List.getElem_cons_zero, List.getElem_cons_succ, List.setIfInBounds_toArray, List.set_cons_zero, List.set_cons_succ]
     refine wpAnyH_take (i := 9) (v := ?_) rfl (by kernel_rfl) (by kernel_rfl) (by kernel_rfl) (fun _ _ _ h => h) (Or.inl ⟨by rfl, ?_⟩) (by assumption) ?_
     rotate_left
     · (intro w hSw; (try dsimp only at hSw); go_simp; try with_reducible rfl)
     simp only [Act.put, List.getElem_toArray, List.getElem_cons_zero, List.getElem_cons_succ, List.setIfInBounds_toArray, List.set_cons_zero, List.set_cons_succ]
     refine wpAnyH_take (i := 11) (v := ?_) rfl (by kernel_rfl) (by kernel_rfl) (by kernel_rfl) (fun _ _ _ h => h) (Or.inl ⟨by rfl, ?_⟩) (by assumption) ?_
     rotate_left
     · (intro w hSw; (try dsimp only at hSw); go_simp; try with_reducible rfl)
     simp only [Act.put, List.getElem_toArray, List.getElem_cons_zero, List.getElem_cons_succ, List.setIfInBounds_toArray, List.set_cons_zero, List.set_cons_succ]
     refine wpAnyH_ready (rs := [10]) (by kernel_rfl) (by simp) ?_
     refine AllReadyH.cons rfl (fun K hK => ?_) AllReadyH.nil
     go_simp
     go_at_call 51
     have hp := hHeld
     refine (HOa.out _ hp).mono ?_
     rintro e wd ⟨rfl, hbd⟩
     have hbw := hp.2.2.2.2.2.2.trans (hbd.mono hp.2.2.2.2.2.2.size)
     clear hp hbd hHeld
     go_wp2_with fail
     refine hK.out _ _ (HSb.out _ hbw) (fun hHeld => ?_)
     clear hK K hbw
     refine wpAnyH_take (i := 12) (v := ?_) rfl (by kernel_rfl) (by kernel_rfl) (by kernel_rfl) (fun _ _ _ h => h) (Or.inl ⟨by rfl, ?_⟩) (by assumption) ?_
     rotate_left
     · (intro w hSw; (try dsimp only at hSw); go_simp; try with_reducible rfl)
     simp only [Act.put, List.getElem_toArray, List.getElem_cons_zero, List.getElem_cons_succ, List.setIfInBounds_toArray, List.set_cons_zero, List.set_cons_succ]
     refine wpAnyH_take (i := 13) (v := ?_) rfl (by kernel_rfl) (by kernel_rfl) (by kernel_rfl) (fun _ _ _ h => h) (Or.inl ⟨by rfl, ?_⟩) (by assumption) ?_
     rotate_left
     · (intro w hSw; (try dsimp only at hSw); go_simp; try with_reducible rfl)
     simp only [Act.put, List.getElem_toArray, List.getElem_cons_zero, List.getElem_cons_succ, List.setIfInBounds_toArray, List.set_cons_zero, List.set_cons_succ]
     refine wpAnyH_take (i := 14) (v := ?_) rfl (by kernel_rfl) (by kernel_rfl) (by kernel_rfl) (fun _ _ _ h => h) (Or.inl ⟨by rfl, ?_⟩) (by assumption) ?_
     rotate_left
     · (intro w hSw; (try dsimp only at hSw); go_simp; try with_reducible rfl)
     simp only [Act.put, List.getElem_toArray, List.getElem_cons_zero, List.getElem_cons_succ, List.setIfInBounds_toArray, List.set_cons_zero, List.set_cons_succ]
     refine wpAnyH_take (i := 15) (v := undef) rfl (by kernel_rfl) (by kernel_rfl) (by kernel_rfl) (fun _ _ _ h => h) (Or.inr ⟨by kernel_rfl, rfl⟩) (by assumption) ?_
     simp only [Act.put, List.getElem_toArray, List.getElem_cons_zero, List.getElem_cons_succ, List.setIfInBounds_toArray, List.set_cons_zero, List.set_cons_succ]
     refine wpAnyH_take (i := 16) (v := undef) rfl (by kernel_rfl) (by kernel_rfl) (by kernel_rfl) (fun _ _ _ h => h) (Or.inr ⟨by kernel_rfl, rfl⟩) (by assumption) ?_
     simp only [Act.put, List.getElem_toArray, List.getElem_cons_zero, List.getElem_cons_succ, List.setIfInBounds_toArray, List.set_cons_zero, List.set_cons_succ]
     refine wpAnyH_take (i := 17) (v := undef) rfl (by kernel_rfl) (by kernel_rfl) (by kernel_rfl) (fun _ _ _ h => h) (Or.inr ⟨by kernel_rfl, rfl⟩) (by assumption) ?_
     simp only [Act.put, List.getElem_toArray, List.getElem_cons_zero, List.getElem_cons_succ, List.setIfInBounds_toArray, List.set_cons_zero, List.set_cons_succ]
     refine wpAnyH_take (i := 18) (v := undef) rfl (by kernel_rfl) (by kernel_rfl) (by kernel_rfl) (fun _ _ _ h => h) (Or.inr ⟨by kernel_rfl, rfl⟩) (by assumption) ?_
     simp only [Act.put, List.getElem_toArray, List.getElem_cons_zero, List.getElem_cons_succ, List.setIfInBounds_toArray, List.set_cons_zero, List.set_cons_succ]
     refine wpAnyH_take (i := 19) (v := ?_) rfl (by kernel_rfl) (by kernel_rfl) (by kernel_rfl) (fun _ _ _ h => h) (Or.inl ⟨by rfl, ?_⟩) (by assumption) ?_
     rotate_left
     · (intro w hSw; (try dsimp only at hSw); go_simp; try with_reducible rfl)
     simp only [Act.put, List.getElem_toArray, List.getElem_cons_zero, List.getElem_cons_succ, List.setIfInBounds_toArray, List.set_cons_zero, List.set_cons_succ]
     refine wpAnyH_take (i := 20) (v := ?_) rfl (by kernel_rfl) (by kernel_rfl) (by kernel_rfl) (fun _ _ _ h => h) (Or.inl ⟨by rfl, ?_⟩) (by assumption) ?_
     rotate_left
     · (intro w hSw; (try dsimp only at hSw); go_simp; try with_reducible rfl)
     simp only [Act.put, List.getElem_toArray, List.getElem_cons_zero, List.getElem_cons_succ, List.setIfInBounds_toArray, List.set_cons_zero, List.set_cons_succ]
     refine wpAnyH_done (by kernel_rfl) ?_ _
     have HB9 := Lib.hid hHeld.2.2.2.2.2.2
     clear hHeld
     go_wp2
     go_ret
     exact ⟨ret_bool HR.out.symm, HB.out.trans (HB9.out.mono HB.out.size)⟩
   | true =>
     have HR : Hid (r = q) := by
      show _ = _
      rw [HH.out, decide_eq_true (beq_iff_eq.1 b1), decide_eq_true (by simpa using b2), Bool.true_and, Bool.true_and]
     clear HH
     refine wp_region_held_drew (S := fun W' => W'.cell? ⟨wb, 0, none⟩ = some (.slice A s.to_.length c) ∧ W'.cell? ⟨wb, 1, none⟩ = some (.slice F s.first.length fc) ∧ W'.cell? ⟨wb, 2, none⟩ = some (.map (some mb)) ∧ W'.cell? ⟨tb, 0, none⟩ = some (.int .i64 t) ∧ W'.cell? ⟨w.heap.size, 0, none⟩ = some (.int .i64 (an : Int)) ∧ W'.cell? ⟨w.heap.size, 1, none⟩ = some (.int .i64 (bn : Int)) ∧ Below (w.alloc (.cells #[.int .i64 (an : Int), .int .i64 (bn : Int)] 48)).heap.size (w.alloc (.cells #[.int .i64 (an : Int), .int .i64 (bn : Int)] 48)) W') (by kernel_rfl) (HSb.out _ (Below.drew (Below.refl _ _))) (fun hHeld => ?_)
     refine wpAnyH_take (i := 0) (v := ?_) rfl (by kernel_rfl) (by kernel_rfl) (by kernel_rfl) (fun _ _ _ h => h) (Or.inl ⟨by rfl, ?_⟩) (by assumption) ?_
     rotate_left
     · (intro w hSw; (try dsimp only at hSw); go_simp; try with_reducible rfl)
     simp only [Act.put, List.getElem_toArray, List.getElem_cons_zero, List.setIfInBounds_toArray, List.set_cons_zero, List.set_cons_succ]
     refine wpAnyH_take (i := 1) (v := ?_) rfl (by kernel_rfl) (by kernel_rfl) (by kernel_rfl) (fun _ _ _ h => h) (Or.inl ⟨by rfl, ?_⟩) (by assumption) ?_
     rotate_left
     · (intro w hSw; (try dsimp only at hSw); go_simp; try with_reducible rfl)
     simp only [Act.put, List.getElem_toArray, List.getElem_cons_zero, List.getElem_cons_succ, List.setIfInBounds_toArray, List.set_cons_zero, List.set_cons_succ]
     refine wpAnyH_take (i := 2) (v := ?_) rfl (by kernel_rfl) (by kernel_rfl) (by kernel_rfl) (fun _ _ _ h => h) (Or.inl ⟨by rfl, ?_⟩) (by assumption) ?_
     rotate_left
     · (intro w hSw; (try dsimp only at hSw); go_simp; try with_reducible rfl)
     simp only [Act.put, List.getElem_toArray, List.getElem_cons_zero, List.getElem_cons_succ, List.setIfInBounds_toArray, List.set_cons_zero, List.set_cons_succ]
     refine wpAnyH_take (i := 4) (v := ?_) rfl (by kernel_rfl) (by kernel_rfl) (by kernel_rfl) (fun _ _ _ h => h) (Or.inl ⟨by rfl, ?_⟩) (by assumption) ?_
     rotate_left
     · (intro w hSw; (try dsimp only at hSw); go_simp; try with_reducible rfl)
     simp only [Act.put, List.getElem_toArray, List.getElem_cons_zero, List.getElem_cons_succ, List.setIfInBounds_toArray, List.set_cons_zero, List.set_cons_succ]
     refine wpAnyH_ready (rs := [3]) (by kernel_rfl) (by simp) ?_
     refine AllReadyH.cons rfl (fun K hK => ?_) AllReadyH.nil
     go_simp
     go_at_call 51
     have hp := hHeld
     refine (HOb.out _ hp).mono ?_
     rintro e wd ⟨rfl, hbd⟩
     have hbw := hp.2.2.2.2.2.2.trans (hbd.mono hp.2.2.2.2.2.2.size)
     clear hp hbd hHeld
     go_wp2_with fail
     refine hK.out _ _ (HSb.out _ hbw) (fun hHeld => ?_)
     clear hK K hbw
     refine wpAnyH_take (i := 5) (v := ?_) rfl (by kernel_rfl) (by kernel_rfl) (by kernel_rfl) (fun _ _ _ h => h) (Or.inl ⟨by rfl, ?_⟩) (by assumption) ?_
     rotate_left
     · (intro w hSw; (try dsimp only at hSw); go_simp; try with_reducible rfl)
     simp only [Act.put, List.getElem_toArray, List.getElem_cons_zero, List.getElem_cons_succ, List.setIfInBounds_toArray, List.set_cons_zero, List.set_cons_succ]
     refine wpAnyH_take (i := 6) (v := ?_) rfl (by kernel_rfl) (by kernel_rfl) (by kernel_rfl) (fun _ _ _ h => h) (Or.inl ⟨by rfl, ?_⟩) (by assumption) ?_
     rotate_left
     · (intro w hSw; (try dsimp only at hSw); go_simp; try with_reducible rfl)
     simp only [Act.put, List.getElem_toArray, List.getElem_cons_zero, List.getElem_cons_succ, List.setIfInBounds_toArray, List.set_cons_zero, List.set_cons_succ]
     refine wpAnyH_take (i := 7) (v := ?_) rfl (by kernel_rfl) (by kernel_rfl) (by kernel_rfl) (fun _ _ _ h => h) (Or.inl ⟨by rfl, ?_⟩) (by assumption) ?_
     rotate_left
     · (intro w hSw; (try dsimp only at hSw); go_simp; try with_reducible rfl)
     simp only [Act.put, List.getElem_toArray, List.getElem_cons_zero, List.getElem_cons_succ, List.setIfInBounds_toArray, List.set_cons_zero, List.set_cons_succ]
     refine wpAnyH_take (i := 8) (v := ?_) rfl (by kernel_rfl) (by kernel_rfl) (by kernel_rfl) (fun _ _ _ h => h) (Or.inl ⟨by rfl, ?_⟩) (by assumption) ?_
     rotate_left
     · (intro w hSw; (try dsimp only at hSw); go_simp; try with_reducible rfl)
     simp only [Act.put, List.getElem_toArray, List.getElem_cons_zero, List.getElem_cons_succ, List.setIfInBounds_toArray, List.set_cons_zero, List.set_cons_succ]
     refine wpAnyH_take (i := 9) (v := ?_) rfl (by kernel_rfl) (by kernel_rfl) (by kernel_rfl) (fun _ _ _ h => h) (Or.inl ⟨by rfl, ?_⟩) (by assumption) ?_
     rotate_left
     · (intro w hSw; (try dsimp only at hSw); go_simp; try with_reducible rfl)
     simp only [Act.put, List.getElem_toArray, List.getElem_cons_zero, List.getElem_cons_succ, List.setIfInBounds_toArray, List.set_cons_zero, List.set_cons_succ]
     refine wpAnyH_take (i := 11) (v := ?_) rfl (by kernel_rfl) (by kernel_rfl) (by kernel_rfl) (fun _ _ _ h => h) (Or.inl ⟨by rfl, ?_⟩) (by assumption) ?_
     rotate_left
     · (intro w hSw; (try dsimp only at hSw); go_simp; try with_reducible rfl)
     simp only [Act.put, List.getElem_toArray, List.getElem_cons_zero, List.getElem_cons_succ, List.setIfInBounds_toArray, List.set_cons_zero, List.set_cons_succ]
     refine wpAnyH_ready (rs := [10]) (by kernel_rfl) (by simp) ?_
     refine AllReadyH.cons rfl (fun K hK => ?_) AllReadyH.nil
     go_simp
     go_at_call 51
     have hp := hHeld
     refine (HOa.out _ hp).mono ?_
     rintro e wd ⟨rfl, hbd⟩
     have hbw := hp.2.2.2.2.2.2.trans (hbd.mono hp.2.2.2.2.2.2.size)
     clear hp hbd hHeld
     go_wp2_with fail
     refine hK.out _ _ (HSb.out _ hbw) (fun hHeld => ?_)
     clear hK K hbw
     refine wpAnyH_take (i := 12) (v := ?_) rfl (by kernel_rfl) (by kernel_rfl) (by kernel_rfl) (fun _ _ _ h => h) (Or.inl ⟨by rfl, ?_⟩) (by assumption) ?_
     rotate_left
     · (intro w hSw; (try dsimp only at hSw); go_simp; try with_reducible rfl)
     simp only [Act.put, List.getElem_toArray, List.getElem_cons_zero, List.getElem_cons_succ, List.setIfInBounds_toArray, List.set_cons_zero, List.set_cons_succ]
     refine wpAnyH_take (i := 13) (v := ?_) rfl (by kernel_rfl) (by kernel_rfl) (by kernel_rfl) (fun _ _ _ h => h) (Or.inl ⟨by rfl, ?_⟩) (by assumption) ?_
     rotate_left
     · (intro w hSw; (try dsimp only at hSw); go_simp; try with_reducible rfl)
     simp only [Act.put, List.getElem_toArray, List.getElem_cons_zero, List.getElem_cons_succ, List.setIfInBounds_toArray, List.set_cons_zero, List.set_cons_succ]
     refine wpAnyH_take (i := 14) (v := ?_) rfl (by kernel_rfl) (by kernel_rfl) (by kernel_rfl) (fun _ _ _ h => h) (Or.inl ⟨by rfl, ?_⟩) (by assumption) ?_
     rotate_left
     · (intro w hSw; (try dsimp only at hSw); go_simp; try with_reducible rfl)
     simp only [Act.put, List.getElem_toArray, List.getElem_cons_zero, List.getElem_cons_succ, List.setIfInBounds_toArray, List.set_cons_zero, List.set_cons_succ]
     refine wpAnyH_take (i := 15) (v := ?_) rfl (by kernel_rfl) (by kernel_rfl) (by kernel_rfl) (fun _ _ _ h => h) (Or.inl ⟨by rfl, ?_⟩) (by assumption) ?_
     rotate_left
     · (intro w hSw; (try dsimp only at hSw); go_simp; try with_reducible rfl)
     simp only [Act.put, List.getElem_toArray, List.getElem_cons_zero, List.getElem_cons_succ, List.setIfInBounds_toArray, List.set_cons_zero, List.set_cons_succ]
     refine wpAnyH_take (i := 16) (v := ?_) rfl (by kernel_rfl) (by kernel_rfl) (by kernel_rfl) (fun _ _ _ h => h) (Or.inl ⟨by rfl, ?_⟩) (by assumption) ?_
     rotate_left
     · (intro w hSw; (try dsimp only at hSw); go_simp; try with_reducible rfl)
     simp only [Act.put, List.getElem_toArray, List.getElem_cons_zero, List.getElem_cons_succ, List.setIfInBounds_toArray, List.set_cons_zero, List.set_cons_succ]
     refine wpAnyH_take (i := 17) (v := ?_) rfl (by kernel_rfl) (by kernel_rfl) (by kernel_rfl) (fun _ _ _ h => h) (Or.inl ⟨by rfl, ?_⟩) (by assumption) ?_
     rotate_left
     · (intro w hSw; (try dsimp only at hSw); go_simp; try with_reducible rfl)
     simp only [Act.put, List.getElem_toArray, List.getElem_cons_zero, List.getElem_cons_succ, List.setIfInBounds_toArray, List.set_cons_zero, List.set_cons_succ]
     refine wpAnyH_ready (rs := [18]) (by kernel_rfl) (by simp) ?_
     refine AllReadyH.cons rfl (fun K hK => ?_) AllReadyH.nil
     go_simp
     go_at_call 52
     have hp := hHeld
     refine (HWa.out _ hp).mono ?_
     rintro e wd ⟨rfl, hbd⟩
     have hbw := hp.2.2.2.2.2.2.trans (hbd.mono hp.2.2.2.2.2.2.size)
     clear hp hbd hHeld
     go_wp2_with fail
     refine hK.out _ _ (HSb.out _ hbw) (fun hHeld => ?_)
     clear hK K hbw
     refine wpAnyH_take (i := 19) (v := ?_) rfl (by kernel_rfl) (by kernel_rfl) (by kernel_rfl) (fun _ _ _ h => h) (Or.inl ⟨by rfl, ?_⟩) (by assumption) ?_
     rotate_left
     · (intro w hSw; (try dsimp only at hSw); go_simp; try with_reducible rfl)
     simp only [Act.put, List.getElem_toArray, List.getElem_cons_zero, List.getElem_cons_succ, List.setIfInBounds_toArray, List.set_cons_zero, List.set_cons_succ]
     refine wpAnyH_take (i := 20) (v := ?_) rfl (by kernel_rfl) (by kernel_rfl) (by kernel_rfl) (fun _ _ _ h => h) (Or.inl ⟨by rfl, ?_⟩) (by assumption) ?_
     rotate_left
     · (intro w hSw; (try dsimp only at hSw); go_simp; try with_reducible rfl)
     simp only [Act.put, List.getElem_toArray, List.getElem_cons_zero, List.getElem_cons_succ, List.setIfInBounds_toArray, List.set_cons_zero, List.set_cons_succ]
     refine wpAnyH_done (by kernel_rfl) ?_ _
     have HB9 := Lib.hid hHeld.2.2.2.2.2.2
     clear hHeld
     go_wp2
     go_ret
     exact ⟨ret_bool HR.out.symm, HB.out.trans (HB9.out.mono HB.out.size)⟩
end Go.Proofs.YtflpikickbellaaGreat
