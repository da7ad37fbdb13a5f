/- Layer 34, contracts: the iterator's walk. -/
import Derived.Test.YthedmiilkeclaaaI7
namespace Go.Proofs.Ythedmiilkeclaaa
open Go.RowKit Go.Shelf
open Go.Proofs.Ythedmiilkeclaaa.I34
attribute [local go_sem] Oper.semAt_some
set_option maxRecDepth 100000

theorem abides_step {β : Type} {B : Nat} {J : β → World → Prop} (h : AbidesFrom B J) {s : β} {W W' : World} (hs : J s W) (_ : B ≤ W.heap.size) (hb : Below W.heap.size W W') : J s W' :=
  h s W W' none hs (grown_of_below hb (Nat.le_refl _)) (fun r e => by cases e)
theorem own_form {w : World} {B : Nat} {e : TypeId} {size n : Nat} {v : Value} {xs : List Value} (h : w.ownsRow B e size v n xs) : ∃ a c, v = .slice a n c := by
  rcases h.2 with ⟨rfl, rfl⟩ | ⟨g, cap, cur, rfl, _⟩
  · exact ⟨none, 0, rfl⟩
  · exact ⟨_, _, rfl⟩
theorem own_pos {w : World} {B : Nat} {e : TypeId} {size n c : Nat} {a : Option Addr} {xs : List Value} (h : w.ownsRow B e size (.slice a n c) n xs) (hn : 0 < n) : ∃ g, a = some ⟨g, 0, none⟩ ∧ B ≤ g ∧ g < w.heap.size ∧ ∀ j, j < n * size → w.cell? ⟨g, j, none⟩ = xs[j]? := by
  rcases h.2 with ⟨hv, rfl⟩ | ⟨g, cap, cur, hv, hg, hh, r⟩
  · omega
  · cases hv
    exact ⟨g, rfl, hg, (Array.getElem?_eq_some_iff.1 hh).1, fun j hj => h.cellAt j hj⟩
theorem pairCells_at : ∀ {l : List (Nat × Nat)} {j : Nat} {f : Nat × Nat}, l[j]? = some f → (pairCells l)[j * 2]? = some (.int .i64 (f.1 : Int)) ∧ (pairCells l)[j * 2 + 1]? = some (.int .i64 (f.2 : Int))
  | [], _, _, h => by simp at h
  | g :: l, 0, f, h => by simp at h; subst h; simp [pairCells]
  | g :: l, j + 1, f, h => by
    have h' : l[j]? = some f := by simpa using h
    have ih := pairCells_at h'
    have e : pairCells (g :: l) = .int .i64 (g.1 : Int) :: .int .i64 (g.2 : Int) :: pairCells l := rfl
    rw [e, show (j + 1) * 2 = j * 2 + 2 by omega, show j * 2 + 2 + 1 = (j * 2 + 1) + 2 by omega]
    exact ih

set_option maxHeartbeats 4000000 in
theorem lengths_stops (n : Nat) (hn : 1 ≤ n) (Bs n₀ B0 : Nat) (A : Option Addr) (c : Nat) (p : List (List Int)) (hp : chk p = 0) (w : World) (hBs : Bs < w.heap.size) (hB0 : B0 < w.heap.size) (hn0 : n₀ ≤ B0)
    (hc : w.cell? ⟨Bs, 0, none⟩ = some (.slice A p.length c)) (hs : SlRows w n₀ A p) :
    SeqStopsK Fence.wide n Try.prog 36 #[.pointer (some ⟨Bs, 0, none⟩)] encF (KC B0) (fun xs => xs = toF (lens p)) (fun _ => True) (lens p).length w := by
  intro l J Jx W hW hJ hJx hY h0
  have hcW := (hW.cell (p := ⟨Bs, 0, none⟩) hBs).trans hc
  have hsW : SlRows W n₀ A p := hs.below (hW.mono (by omega))
  have hzW : B0 < W.heap.size := by have := hW.size; omega
  have hpl := (chk_zero hp).1
  have hpr := Lib.hid (chk_zero hp).2
  clear hc hs hW hBs hB0
  have HY := Lib.hid hY
  have HJ := Lib.hid hJ
  clear hY hJ hJx hp
  refine callsIn_of_wp Try.func36 rfl trivial ?_ rfl
  simp only [Try.ntmps36, List.size_toArray, List.length_cons, List.length_nil, Nat.reduceAdd, Nat.reduceSub, Array.replicate_succ, Array.replicate_zero, List.push_toArray, List.append_toArray, List.nil_append, List.cons_append]
  gi_wp2
  gi_loopw [10] (fun i wr => ∃ k : Nat, k ≤ p.length ∧ i = .int .i64 k ∧ J (toF (came p k 0 0)) wr ∧ SlRows wr n₀ A p ∧ W.heap.size ≤ wr.heap.size) (fun i _ => p.length - (intOf i).toNat)
  case atStart => exact ⟨0, Nat.zero_le _, rfl, by rw [came_zero]; exact h0, hsW, Nat.le_refl _⟩
  case round =>
    obtain ⟨k, hk, rfl, hJs, hsr, hzr⟩ := hrel
    by_cases hlt : k < p.length
    · obtain ⟨b, off, row, A', C', rfl, hB, hr, hcr, hsi⟩ := hsr.at_ hlt
      have HR := Lib.hid hr
      have hrl := (hpr.out row (List.mem_of_getElem? hr)).2
      have hJ2 := Lib.hid hJs
      have hs2 := Lib.hid hsr
      clear hr hJs hsr hcW h0 hsW
      gi_wp2
      gi_loopw [14] (fun i wr => ∃ c : Nat, c ≤ 6 ∧ i = .int .i64 c ∧ J (toF (came p k c 0)) wr ∧ SlRows wr n₀ (some ⟨b, off, none⟩) p ∧ W.heap.size ≤ wr.heap.size ∧ SlI wr n₀ A' row) (fun i _ => 6 - (intOf i).toNat)
      case atStart => exact ⟨0, by omega, rfl, hJ2.out, hs2.out, hzr, hsi⟩
      case round =>
        obtain ⟨c1, hc1, rfl, hJs, hsr, hzr, hsi⟩ := hrel
        have hgd : p.getD k [] = row := by rw [List.getD, HR.out]; rfl
        have HG := Lib.hid hgd
        clear hgd
        by_cases hlt1 : c1 < 6
        · have hJ3 := Lib.hid hJs
          have hs3 := Lib.hid hsr
          have hsi3 := Lib.hid hsi
          clear hJs hsr hcr hJ2 hs2
          gi_wp2_with fail
          refine ⟨trivial, (wide_calls (floats_any A' C' row ((c1 : Int) + 1) _ (hsi3.out.more (by omega)) (by omega))).mono ?_⟩
          rintro e w1 ⟨v, rfl, hown, hb1⟩
          have hJ4 := Lib.hid (abides_step HJ.out hJ3.out hzr hb1)
          have hs4 := Lib.hid (hs3.out.below (hb1.mono (by omega)))
          have hsi4 := Lib.hid (hsi3.out.below (hb1.mono (by omega)))
          have hz4 := hb1.size
          have hgB : B0 < wr.heap.size := by omega
          clear hJ3 hs3 hsi3 hb1
          obtain ⟨fl, hfl⟩ : ∃ fl, flo row ((c1 : Int) + 1) = fl := ⟨_, rfl⟩
          have hfr := flo_row row ((c1 : Int) + 1)
          rw [hfl] at hown hfr
          obtain ⟨av, cv, rfl⟩ := own_form hown
          have HFL := Lib.hid hfl
          have HFR := Lib.hid hfr
          clear hfl hfr
          have hfll : fl.length ≤ 1000 := by
            have := floTo_len row ((c1 : Int) + 1) row.length
            have e : (floTo row ((c1 : Int) + 1) row.length).1 = fl := HFL.out
            rw [e] at this; omega
          gi_wp2
          gi_loopw [22] (fun i wr2 => ∃ j : Nat, j ≤ fl.length ∧ i = .int .i64 j ∧ J (toF (came p k c1 j)) wr2 ∧ SlRows wr2 n₀ (some ⟨b, off, none⟩) p ∧ W.heap.size ≤ wr2.heap.size ∧ SlI wr2 n₀ A' row ∧
              wr2.ownsRow (B0 + 1) 46 2 (.slice av fl.length cv) fl.length (pairCells fl)) (fun i _ => fl.length - (intOf i).toNat)
          case atStart => exact ⟨0, by omega, rfl, hJ4.out, hs4.out, by omega, hsi4.out, own_base hown (by omega)⟩
          case round =>
            obtain ⟨j, hj, rfl, hJs, hsr, hzr2, hsi, hown⟩ := hrel
            by_cases hlt2 : j < fl.length
            · obtain ⟨g, rfl, hgB2, hgl, hcells⟩ := own_pos hown (by omega)
              have hf : fl[j]? = some fl[j] := List.getElem?_eq_getElem hlt2
              generalize fl[j] = f at hf
              obtain ⟨hx, hy⟩ := pairCells_at hf
              have hcx : wr.cell? ⟨g, j * 2, none⟩ = some (.int .i64 (f.1 : Int)) := (hcells _ (by omega)).trans hx
              have hcy : wr.cell? ⟨g, j * 2 + 1, none⟩ = some (.int .i64 (f.2 : Int)) := (hcells _ (by omega)).trans hy
              have hbd := Row.bounds HFR.out hf
              have hf2 : (flo (p.getD k []) ((c1 : Int) + 1))[j]? = some f := by rw [HG.out, HFL.out]; exact hf
              have hcm := came_float hf2
              have hlt3 := came_lt hlt hlt1 hf2
              clear hx hy hcells hf hf2
              have hJ5 := abides_step HJ.out hJs hzr2 ((Below.refl _ wr).alloc (Nat.le_refl _) (.cells #[.int .i64 (f.1 : Int), .int .i64 (f.2 : Int)] 46))
              obtain ⟨fn, tmps, assign, body, hy, hR⟩ := HY.out _ (⟨lenOf f % 101, Nat.mod_lt _ (by omega)⟩ : F101) _ hJ5 (by rw [toF_length]; exact hlt3)
              have hlen : lenOf f % 101 = lenOf f := Nat.mod_eq_of_lt (by unfold lenOf; omega)
              have henc : encF (⟨lenOf f % 101, Nat.mod_lt _ (by omega)⟩ : F101) = #[.int .i64 ((f.2 : Int) - (f.1 : Int) - 1)] := by
                unfold encF
                simp only [hlen]
                congr 3
                unfold lenOf; omega
              rw [henc] at hy
              rw [← toF_snoc, ← hcm] at hR
              have HCM := Lib.hid hcm
              have hs5 := Lib.hid hsr
              have hsi5 := Lib.hid hsi
              have ho5 := Lib.hid hown
              clear hcm hlen henc hJ5 hJs hsr hsi hown
              gi_wp2
              refine hR.mono ?_
              rintro e W3 (⟨rfl, hJ3, hk3⟩ | ⟨rfl, hJx3⟩)
              · have hs6 := Lib.hid (hk3.rows hn0 (hs5.out.below (((Below.refl n₀ wr).alloc (by omega) _))))
                have hsi6 := Lib.hid (hk3.sl hn0 (hsi5.out.below (((Below.refl n₀ wr).alloc (by omega) _))))
                have ho6 := Lib.hid (hk3.own (by simp [Value.ownBlock]; omega) (ho5.out.alloc (.cells #[.int .i64 (f.1 : Int), .int .i64 (f.2 : Int)] 46)))
                have hz6 := hk3.1
                rw [World.size_alloc] at hz6
                have HJ3 := Lib.hid hJ3
                clear hk3 hs5 hsi5 ho5 hJ3
                gi_wp2
                go_roundw
                case rel => exact ⟨j + 1, by omega, by go_num, HJ3.out, hs6.out, by omega, hsi6.out, ho6.out⟩
                case measure => simp [intOf]; omega
              · gi_wp2
                refine bodyPost_ret (results_none rfl _ _ _) rfl ?_
                exact ⟨⟨_, rfl⟩, .inr ⟨_, trivial, hJx3⟩⟩
            · obtain rfl : j = fl.length := by omega
              have HJ3 := Lib.hid hJs
              have hs6 := Lib.hid hsr
              have hsi6 := Lib.hid hsi
              clear hJs hsr hsi hown
              gi_wp2
              go_roundw
              case rel =>
                refine ⟨c1 + 1, by omega, by go_num, ?_, hs6.out, hzr2, hsi6.out⟩
                rw [came_colour (j := fl.length) (by unfold rowLens; rw [HG.out, List.length_map, HFL.out]; exact Nat.le_refl _)]
                exact HJ3.out
              case measure => simp [intOf]; omega
        · obtain rfl : c1 = 6 := by omega
          have HJ3 := Lib.hid hJs
          have hs6 := Lib.hid hsr
          clear hJs hsr hsi
          gi_wp2
          go_roundw
          case rel => exact ⟨k + 1, by omega, by go_num, by rw [came_row hlt]; exact HJ3.out, hs6.out, by omega⟩
          case measure => simp [intOf]; omega
    · obtain rfl : k = p.length := by omega
      have HJ3 := Lib.hid hJs
      clear hJs hsr
      gi_wp2
      go_end0
      exact ⟨⟨_, rfl⟩, .inl ⟨_, rfl, by rw [← came_all (p := p) (Nat.le_refl _)]; exact HJ3.out⟩⟩
end Go.Proofs.Ythedmiilkeclaaa
