/- The reference's Held, with a row of its own; Column. The reference: what put hands back, stored behind the pointer: plain. -/
import Derived.Test.YthedmiilkeclaaaGreatKPf
import Derived.Test.YthedmiilkeclaaaGreatKPh
import Derived.Test.YthedmiilkeclaaaGreatKDoB
import Derived.Test.YthedmiilkeclaaaGreatKQa
namespace Go.Proofs.YthedmiilkeclaaaGreat
open Go.RowKit Go.Shelf
set_option maxRecDepth 100000

def ownOut (l : List Int) (w : World) (e : Ending) (w' : World) : Prop := ∃ A c, e = .returned (.slice A l.length c) ∧ (rowI (.slice A l.length c) l).lies w' w.heap.size ∧ Below w.heap.size w w'
set_option maxHeartbeats 1000000 in
theorem rcolumn_any (s : BedS) (p : BedP) (b n : Int) (hb : 0 ≤ b ∧ b ≤ 1) (hr : -8 ≤ s.rack ∧ s.rack ≤ 8) (hn : needleP n) (w : World) :
    Calls Tryz.prog 125 #[s.val p, .int .u8 b, .int .i64 n] w fun e w' => e = .returned (.int .i64 (colI s.rack b n)) ∧ Below w.heap.size w w' := by
  have HAl := Lib.hid ((Below.refl w.heap.size w).alloc (Nat.le_refl _) (bedBox s p))
  unfold BedS.val
  unfold needleP at hn
  obtain ⟨hn1, hn2⟩ := hn
  obtain ⟨hr1, hr2⟩ := hr
  have : b = 0 ∨ b = 1 := by omega
  rcases this with rfl | rfl
  · have HE : Hid (colI s.rack 0 n = n) := by show colI s.rack 0 n = n; unfold colI; omega
    clear hb
    go_enter Tryz.func125, Tryz.ntmps125
    go_wp2
    go_ret
    exact ⟨ret_int HE.out.symm, HAl.out⟩
  · have HE : Hid (colI s.rack 1 n = n + s.rack) := by show colI s.rack 1 n = n + s.rack; unfold colI; omega
    clear hb
    go_enter Tryz.func125, Tryz.ntmps125
    go_wp2
    go_ret
    exact ⟨ret_int HE.out.symm, HAl.out⟩
set_option maxHeartbeats 4000000 in
theorem rheldO_any (s : BedS) (p : BedP) (b n : Int) (hn : s.hooks.length ≤ 10000) (hl : ∀ h ∈ s.hooks, h.loops.length ≤ 1000000) (w : World) (hs : BedAt w w.heap.size p s) :
    Calls Tryz.prog 116 #[s.val p, .int .u8 b, .int .i64 n] w fun e w' => ownOut (heldAt s.hooks b n) w e w' := by
  have HCS := Lib.hid (bed_box w s p)
  have HAl := Lib.hid ((Below.refl w.heap.size w).alloc (Nat.le_refl _) (.cells #[.int .i64 s.rack, .slice p.ah s.hooks.length p.ch, .slice p.af s.feeds.length p.cf, .slice p.am s.made.length p.cm] 48))
  obtain ⟨i0, hi, hz0, hz1, hz2⟩ := info_parts info_int'
  unfold BedS.val
  go_enter Tryz.func116, Tryz.ntmps116
  go_wp2
  go_loopw [7] (fun s7 wr => ∃ k : Nat, k ≤ s.hooks.length ∧ s7 = .int .i64 k ∧ Hid (∀ j y, j < k → s.hooks[j]? = some y → hkAt b n y = false) ∧ Below (w.heap.size + 1) (w.alloc (.cells #[.int .i64 s.rack, .slice p.ah s.hooks.length p.ch, .slice p.af s.feeds.length p.cf, .slice p.am s.made.length p.cm] 48)) wr) (fun s7 _ => s.hooks.length - (intOf s7).toNat)
  case atStart => exact ⟨0, Nat.zero_le _, rfl, (fun j _ hj => absurd hj (Nat.not_lt_zero j)), Below.refl _ _⟩
  case round =>
    obtain ⟨k, hk, rfl, H, hbw⟩ := hrel
    have hbww : Below w.heap.size w wr := HAl.out.trans (hbw.mono (by omega))
    obtain ⟨c0, c1, c2, c3⟩ := HCS.out wr hbw
    by_cases hlt : k < s.hooks.length
    · obtain ⟨bb, off, h, A', C', hA, hB, hr, q0, q1, q2, hC, hsi⟩ := hs.hooks.at_ hlt
      have d0 := (bcell hbww hB _).trans q0
      have d1 := (bcell hbww hB _).trans q1
      have d2 := (bcell hbww hB _).trans q2
      rw [hA] at c1
      have HR := Lib.hid hr
      have hll := hl h (List.mem_of_getElem? hr)
      have HSi := Lib.hid (hsi.below hbww)
      have HBw := Lib.hid hbww
      have hQ : hkAt b n h = false → ∀ j y, j < k + 1 → s.hooks[j]? = some y → hkAt b n y = false := fun hh j y hj hy => by
        by_cases e : j = k
        · subst e; rw [HR.out] at hy; injection hy with hy; subst hy; exact hh
        · exact H.out j y (by omega) hy
      have HQ := Lib.hid hQ
      clear hs hl hr q0 q1 q2 hA hsi hQ
      by_cases he : h.bed = b
      case neg =>
        have HQ2 := Lib.hid (HQ.out (decide_eq_false (fun hh => he hh.1)))
        have e1 : (h.bed == b) = false := by simp [he]
        clear H he HQ
        go_wp2
        go_roundw
        case rel => exact ⟨k + 1, by omega, by go_num, HQ2, hbw⟩
        case measure => simp [intOf]; omega
      case pos =>
        have e1 : (h.bed == b) = true := by simp [he]
        by_cases he2 : h.at_ = n
        case neg =>
          have HQ2 := Lib.hid (HQ.out (decide_eq_false (fun hh => he2 hh.2)))
          have e2 : (h.at_ == n) = false := by simp [he2]
          clear H he he2 HQ
          go_wp2
          go_roundw
          case rel => exact ⟨k + 1, by omega, by go_num, HQ2, hbw⟩
          case measure => simp [intOf]; omega
        case pos =>
          have HF : Hid (heldAt s.hooks b n = h.loops) := heldAt_hit HR.out (decide_eq_true ⟨he, he2⟩) H.out
          have e2 : (h.at_ == n) = true := by simp [he2]
          clear H he he2 HQ HR
          generalize h.loops = L at HF d2 hll HSi hC
          cases A' with
          | none =>
            have hL : L = [] := by
              cases L with
              | nil => rfl
              | cons a t =>
                obtain ⟨_, _, e, _⟩ := HSi.out (by simp)
                cases e
            subst hL
            have HO : Hid (ownOut (heldAt s.hooks b n) w (.returned (.slice (some ⟨wr.heap.size, 0, none⟩) 0 0)) (wr.alloc (.cells #[] 3))) := by
              unfold Hid; rw [HF.out]; exact ⟨_, 0, rfl, World.ownsRow_lit wr #[] 0 HBw.out.size (by decide) rfl, HBw.out.alloc HBw.out.size _⟩
            clear HF HSi
            rw [List.length_nil] at d2
            have k1 := fun o => cell_al c1 o
            have k2 := fun o => cell_al d2 o
            go_wp2
            go_ret
            exact HO.out
          | some ad =>
            have hnew : ∀ j u, (intV L)[j]? = some u → (wr.alloc (.cells #[] 3)).cell? (ad.add j) = some u := fun j u hu => by
              have hne : L ≠ [] := fun e => by subst e; simp [intV] at hu
              obtain ⟨b2, off2, e, hB2, hc⟩ := HSi.out hne
              cases e
              unfold intV at hu
              rw [List.getElem?_map] at hu
              cases hz : L[j]? with
              | none => rw [hz] at hu; cases hu
              | some z =>
                rw [hz] at hu
                simp only [Option.map_some, Option.some.injEq] at hu
                rw [show (⟨b2, off2, none⟩ : Addr).add j = ⟨b2, off2 + j, none⟩ by unfold Addr.add; split <;> simp_all, ← hu]
                exact (bcell ((Below.refl w.heap.size wr).alloc HBw.out.size _) hB2 _).trans (hc j z hz)
            have HN := Lib.hid hnew
            have HLn : Hid ((intV L).length = L.length) := by simp [Hid, intV]
            have H1 : Hid (∀ u ∈ intV L, u.oneCell' = true) := fun u hu => by
              obtain ⟨x, _, rfl⟩ := List.mem_map.1 hu
              rfl
            have k1 := fun o => cell_al c1 o
            have k2 := fun o => cell_al d2 o
            clear hnew HSi
            go_wp2_with (at_builtin; refine wpList_append_own _ rfl _ _ 22 rfl wr.heap.size 3 i0 (.int .i64 0) 1 8 Tryz.underlying22 hi hz0 hz1 hz2 rfl (by decide) _ 0 [] rfl (World.ownsRow_lit wr #[] 0 (Nat.le_refl _) (by decide) rfl) ad L.length C' (intV L) rfl (by rw [HLn.out, Nat.mul_one]) HN.out H1.out (by unfold maxLen; omega) (by omega) (by simp) ?_; intro v' w1 hown' hgrow _; have HOw := Lib.hid hown'; have HG := Lib.hid hgrow; clear hown' hgrow)
            have ho := HOw.out
            rw [Nat.zero_add, List.nil_append] at ho
            obtain ⟨a2, c2', rfl, _⟩ := own_slice ho
            have hT : (rowI (.slice a2 L.length c2') L).lies w1 w.heap.size := World.ownsRow.mono ho HBw.out.size
            have hB : Below w.heap.size w w1 := HBw.out.trans ((((Below.refl _ wr).alloc (Nat.le_refl _) _).grown HG.out (by simp) (fun k e => by cases e; exact Nat.le_refl _)).mono HBw.out.size)
            have HO := Lib.hid (show ownOut (heldAt s.hooks b n) w (.returned (.slice a2 L.length c2')) w1 by rw [HF.out]; exact ⟨a2, c2', rfl, hT, hB⟩)
            clear ho hT hB HOw HG HF
            go_ret
            exact HO.out
    · have HF : Hid (heldAt s.hooks b n = []) := heldAt_none fun y hy => by
        obtain ⟨j, hj, e⟩ := List.mem_iff_getElem.1 hy
        exact H.out j y (by omega) (by rw [List.getElem?_eq_getElem hj, e])
      have HO : Hid (ownOut (heldAt s.hooks b n) w (.returned (.slice none 0 0)) wr) := by
        unfold Hid; rw [HF.out]; exact ⟨none, 0, rfl, World.ownsRow_nil .., hbww⟩
      clear H hs hl HF
      go_wp2
      go_ret
      exact HO.out
end Go.Proofs.YthedmiilkeclaaaGreat
namespace Go.Proofs.YthedmiilkeclaaaGreat
open Go.RowKit Go.Shelf
set_option maxRecDepth 100000

theorem WorkAt.subX {T : TypeId} {w : World} {B pb : Nat} {s : BedS} {hv : List (Hk × Value)} {mv : List (Mk × Value)} {vh vf vm : Value} {X X' : List Own} (h : WorkAt T w B pb s hv mv vh vf vm X') (hs : X.Sublist X') : WorkAt T w B pb s hv mv vh vf vm X :=
  ⟨h.hooks, h.made, h.owns.sub (List.Sublist.cons_cons _ (List.Sublist.cons_cons _ (List.Sublist.cons_cons _ (List.Sublist.cons_cons _ ((List.Sublist.refl _).append ((List.Sublist.refl _).append hs))))))⟩
abbrev stW (W : World) (pb : Nat) (v0 v1 v2 v3 : Value) : World := (((W.setCell ⟨pb, 0, none⟩ v0).setCell ⟨pb, 1, none⟩ v1).setCell ⟨pb, 2, none⟩ v2).setCell ⟨pb, 3, none⟩ v3
theorem monoV {l : List Hk} {hv : List (Hk × Value)} (e : hv.map Prod.fst = l) (h : risB ltH l = true) (b n : Int) : Mono (keyV b n) hv := by
  have hm := monoH h b n
  rw [← e] at hm
  exact List.pairwise_map.1 hm
/-- The state behind the pointer, with a needle set anew. -/
theorem put_store {T : TypeId} {w w1 : World} {B pb : Nat} {s : BedS} {hv : List (Hk × Value)} {mv : List (Mk × Value)} {vh vf vm vl : Value} {X : List Own} {b n : Int} {l : List Int} {A : Option Addr} {c : Nat}
    (hr : risB ltH s.hooks = true) (h : WorkAt T w B pb s hv mv vh vf vm (rowI vl l :: X)) (hb : Below w.heap.size w w1) (ho : w1.ownsRow w.heap.size 92 3 (.slice A (putV b n l vl hv).length c) (putV b n l vl hv).length ((putV b n l vl hv).map hookCells).flatten) :
    WorkAt T (stW w1 pb (.int .i64 s.rack) (.slice A (putV b n l vl hv).length c) vf vm) B pb { s with hooks := putAt s.hooks b n l } (putV b n l vl hv) mv (.slice A (putV b n l vl hv).length c) vf vm X := by
  have hB : B ≤ w.heap.size := by have := h.base; omega
  have h1 := (h.owns.swap).turn (o' := rowH (.slice A (putV b n l vl hv).length c) (putV b n l vl hv)) (grown_below hb) (World.ownsRow.mono ho hB) (fun k hk => Or.inr (World.ownsRow.lt ho k hk).1)
  have h2 := rowP_set (rowP_set (rowP_set (rowP_set (h1.swap) 0 (.int .i64 s.rack)) 1 (.slice A (putV b n l vl hv).length c)) 2 vf) 3 vm
  have sp := (split3 (monoV h.hooks hr b n)).1
  -- the other rows: those of the needle that was there are left over
  have hp : (hv.map rowL ++ (rowI vl l :: X)).Perm ((putV b n l vl hv).map rowL ++ ((eqF (keyV b n) hv).map rowL ++ ((if l = [] then [rowI vl l] else []) ++ X))) := by
    have hx : ((xsV b n l vl).map rowL ++ (if l = [] then [rowI vl l] else [])) = [rowI vl l] := by
      unfold xsV
      split
      · rfl
      · rfl
    conv => lhs; rw [sp]
    unfold putV setF
    simp only [List.map_append, List.append_assoc]
    refine List.Perm.append_left _ ?_
    have e1 : ((eqF (keyV b n) hv).map rowL ++ ((hiF (keyV b n) hv).map rowL ++ rowI vl l :: X)).Perm (rowI vl l :: ((hiF (keyV b n) hv).map rowL ++ ((eqF (keyV b n) hv).map rowL ++ X))) := by
      have a1 : ((eqF (keyV b n) hv).map rowL ++ ((hiF (keyV b n) hv).map rowL ++ rowI vl l :: X)).Perm (rowI vl l :: ((eqF (keyV b n) hv).map rowL ++ ((hiF (keyV b n) hv).map rowL ++ X))) := by
        rw [← List.append_assoc, ← List.append_assoc]
        exact List.perm_middle
      refine a1.trans (List.Perm.cons _ ?_)
      rw [← List.append_assoc, ← List.append_assoc]
      exact List.Perm.append_right _ List.perm_append_comm
    refine e1.trans ?_
    by_cases hl : l = []
    · have hxs : xsV b n l vl = [] := by unfold xsV; rw [if_pos hl]
      rw [hxs, if_pos hl]
      simp only [List.map_nil, List.nil_append, List.cons_append]
      have := (List.perm_middle (l₁ := (hiF (keyV b n) hv).map rowL ++ (eqF (keyV b n) hv).map rowL) (l₂ := X) (a := rowI vl l)).symm
      simpa only [List.append_assoc] using this
    · have hxs : (xsV b n l vl).map rowL = [rowI vl l] := by unfold xsV; rw [if_neg hl]; rfl
      rw [hxs, if_neg hl]
      exact List.Perm.refl _
  have h3 : WorkAt T (stW w1 pb (.int .i64 s.rack) (.slice A (putV b n l vl hv).length c) vf vm) B pb { s with hooks := putAt s.hooks b n l } (putV b n l vl hv) mv (.slice A (putV b n l vl hv).length c) vf vm ((eqF (keyV b n) hv).map rowL ++ ((if l = [] then [rowI vl l] else []) ++ X)) :=
    ⟨by rw [putV_map, h.hooks], h.made, h2.perm (perm_loops hp)⟩
  exact h3.subX ((List.sublist_append_right _ _).trans (List.sublist_append_right _ _))
end Go.Proofs.YthedmiilkeclaaaGreat
