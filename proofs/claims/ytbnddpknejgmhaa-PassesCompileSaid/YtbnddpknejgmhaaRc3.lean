/- The reference: Plain, Other, Turned, Seen. -/
import Derived.Test.YtbnddpknejgmhaaRc2
import Derived.Test.YtbnddpknejgmhaaFace2
import Derived.Laws.AppendOwnNone
namespace Go.Proofs.Ytbnddpknejgmhaa
open Go.RowKit Go.Shelf
set_option maxRecDepth 100000

theorem any_take {l : List Stc} {k : Nat} {s : Stc} (hr : l[k]? = some s) (h : ∀ x ∈ l.take k, oddS x = false) (hf : oddS s = false) : ∀ x ∈ l.take (k + 1), oddS x = false := fun x hx => by
  obtain ⟨hk', e⟩ := List.getElem?_eq_some_iff.1 hr
  rw [List.take_succ_eq_append_getElem hk', e] at hx
  rcases List.mem_append.1 hx with h' | h'
  · exact h x h'
  · rw [List.mem_singleton.1 h']; exact hf
set_option maxHeartbeats 2000000 in
theorem rplain_any (start : Int) (A : Option Addr) (c : Nat) (p : List RowC) (hn : p.length ≤ 4611686018427387904) (hrl : ∀ r ∈ p, r.2.length ≤ 4611686018427387904) (w : World) (hs : SlC w w.heap.size A p) :
    Calls Try.prog 37 #[.agg #[.int .i64 start, .slice A p.length c]] w fun e w' => e = .returned (.bool (plainB start p)) ∧ Below w.heap.size w w' := by
  go_enter Try.func37, Try.ntmps37
  go_wp2
  have HC : Hid ((w.alloc (.cells #[.int .i64 start, .slice A p.length c] 40)).cell? ⟨w.heap.size, 0, none⟩ = some (.int .i64 start) ∧ (w.alloc (.cells #[.int .i64 start, .slice A p.length c] 40)).cell? ⟨w.heap.size, 1, none⟩ = some (.slice A p.length c)) := ⟨cell_new rfl rfl rfl, cell_new rfl rfl rfl⟩
  go_loopw [3, 4, 5] (fun i s4 s5 wr => ∃ (k : Nat) (v4 v5 : Value), k ≤ p.length ∧ i = .int .i64 k ∧ v4 = s4 ∧ v5 = s5 ∧ Hid (∀ r ∈ p.take k, r.2.any oddS = false) ∧ Below w.heap.size w wr ∧ (wr.cell? ⟨w.heap.size, 0, none⟩ = some (.int .i64 start) ∧ wr.cell? ⟨w.heap.size, 1, none⟩ = some (.slice A p.length c))) (fun i _ _ _ => p.length - (intOf i).toNat)
  case atStart => exact ⟨0, _, _, Nat.zero_le _, rfl, rfl, rfl, (fun r hr => by simp at hr), (Below.refl _ _).alloc (Nat.le_refl _) _, HC.out⟩
  case round =>
    obtain ⟨k, v4, v5, hk, rfl, rfl, rfl, H, hbw, hc0, hc1⟩ := hrel
    obtain ⟨W0, rfl⟩ : ∃ W0, W0 = wr := ⟨wr, rfl⟩
    by_cases hlt : k < p.length
    · obtain ⟨b, off, r, A', C', rfl, hB, hr, hcr0, hcr1, hC, hsi⟩ := hs.at_ hlt
      have hd1 := (bcell hbw hB _).trans hcr1
      have hsi' := hsi.below hbw
      have HR : Hid (p[k]? = some r) := hr
      have hrn := hrl r (List.mem_of_getElem? hr)
      clear hs hrl hr hsi hcr0 hcr1
      go_wp2
      go_loopw [4, 5] (fun s4 s5 wr => ∃ (q : Nat) (v5 : Value), q ≤ r.2.length ∧ s4 = .int .i64 q ∧ v5 = s5 ∧ Hid (∀ s ∈ r.2.take q, oddS s = false) ∧ wr = W0) (fun s4 _ _ => r.2.length - (intOf s4).toNat)
      case atStart => exact ⟨0, _, Nat.zero_le _, rfl, rfl, (fun r hr => by simp at hr), rfl⟩
      case round =>
        obtain ⟨q, v5', hq, rfl, rfl, H2, rfl⟩ := hrel
        by_cases hql : q < r.2.length
        · obtain ⟨b2, off2, s, rfl, hB2, hz, hcs⟩ := hsi'.at_ hql
          obtain ⟨d0, d1, d2, d3⟩ := hcs
          have HZ := Lib.hid hz
          clear hz hsi'
          by_cases h1 : s.kind = 1
          · have ho : oddS s = false := decide_eq_false (by omega)
            have HQ : Hid (∀ x ∈ r.2.take (q + 1), oddS x = false) := any_take HZ.out H2.out ho
            rw [h1] at d0
            clear H2 h1 ho
            go_wp2
            go_roundw
            case rel => exact ⟨q + 1, _, by omega, by go_num, rfl, HQ, (by first | rfl | trivial)⟩
            case measure => simp [intOf]; omega
          · by_cases h2 : s.kind = 8
            · have ho : oddS s = false := decide_eq_false (by omega)
              have HQ : Hid (∀ x ∈ r.2.take (q + 1), oddS x = false) := any_take HZ.out H2.out ho
              rw [h2] at d0
              clear H2 h1 h2 ho
              go_wp2
              go_roundw
              case rel => exact ⟨q + 1, _, by omega, by go_num, rfl, HQ, (by first | rfl | trivial)⟩
              case measure => simp [intOf]; omega
            · have ho : oddS s = true := decide_eq_true ⟨h1, h2⟩
              have HF : Hid (plainB start p = false) := by
                unfold Hid plainB
                rw [if_pos (List.any_eq_true.2 ⟨r, List.mem_of_getElem? HR.out, List.any_eq_true.2 ⟨s, List.mem_of_getElem? HZ.out, ho⟩⟩)]
              have e1 : (s.kind != 1) = true := by simp [h1]
              have e2 : (s.kind == 1) = false := by simp [h1]
              have e3 : (s.kind != 8) = true := by simp [h2]
              have e4 : (s.kind == 8) = false := by simp [h2]
              clear H2 h1 h2 ho
              go_wp2
              go_ret
              exact ⟨ret_bool HF.out.symm, hbw⟩
        · obtain rfl : q = r.2.length := by omega
          have HQ : Hid (∀ x ∈ p.take (k + 1), x.2.any oddS = false) := take_any (f := fun x => x.2.any oddS) HR.out H.out (by
            have := H2.out
            rw [List.take_length] at this
            rw [List.any_eq_false]
            intro x hx
            simp [this x hx])
          clear H2 H hsi'
          go_wp2
          go_roundw
          case rel => exact ⟨k + 1, _, _, by omega, by go_num, rfl, rfl, HQ, hbw, hc0, hc1⟩
          case measure => simp [intOf]; omega
    · obtain rfl : k = p.length := by omega
      have HF : Hid (plainB start p = decide (start ≤ 101)) := by
        unfold Hid plainB
        rw [if_neg]
        rw [Bool.not_eq_true, List.any_eq_false]
        intro r hr
        have := H.out r (by rw [List.take_length]; exact hr)
        rw [this]; simp
      clear hs hrl H
      go_wp2
      go_ret
      exact ⟨ret_bool HF.out.symm, hbw⟩

theorem other_close {W : World} {tmps : Array Value} {s' : Stc} {b : Nat} {R : Ending → World → Prop} (hF : StcAt W b 0 s') (h2 : tmps[2]?.getD undef = .pointer (some ⟨b, 0, none⟩)) (hR : R (.returned s'.val) W) :
    bodyPost Try.prog Try.f76 R .ret { tmps := tmps, defers := [] } W := by
  obtain ⟨c0, c1, c2, c3⟩ := hF
  simp only [Nat.zero_add] at c1 c2 c3
  refine bodyPost_ret (v := s'.val) ?_ rfl hR
  simp [results, Try.results76, go_sem, h2, c0, c1, c2, c3, Stc.val]
set_option maxHeartbeats 4000000 in
theorem rother_any (s : Stc) (ho : s.ok = true) (w : World) : Calls Try.prog 76 #[s.val] w fun e w' => e = .returned (otherS s).val ∧ Below w.heap.size w w' := by
  have hk : 1 ≤ s.kind ∧ s.kind ≤ 10 := by
    unfold Stc.ok at ho
    simp only [Bool.and_eq_true, decide_eq_true_eq] at ho
    exact ho.1
  obtain ⟨k, pl, a, b⟩ := s
  simp only at hk
  have hbl := Lib.hid (fun o o2 => ((Below.refl w.heap.size w).alloc (Nat.le_refl _) o).alloc (by simp) o2)
  have hp29 : k = 2 ∨ k = 9 → pl = false := by
    rintro (rfl | rfl) <;> cases pl <;> first | rfl | (simp [Stc.ok, formI, formT, form0] at ho)
  clear ho
  rcases (by omega : k = 1 ∨ k = 2 ∨ k = 3 ∨ k = 4 ∨ k = 5 ∨ k = 6 ∨ k = 7 ∨ k = 8 ∨ k = 9 ∨ k = 10) with rfl | rfl | rfl | rfl | rfl | rfl | rfl | rfl | rfl | rfl
  all_goals clear hk
  all_goals first | (obtain rfl := hp29 (Or.inl rfl)) | (obtain rfl := hp29 (Or.inr rfl)) | clear hp29
  all_goals
    go_enter Try.func76, Try.ntmps76
    go_wp2
    exact other_close (s' := otherS ⟨_, _, a, b⟩) ⟨cell_new rfl (by simp) rfl, cell_new rfl (by simp) rfl, cell_new rfl (by simp) rfl, cell_new rfl (by simp) rfl⟩ rfl ⟨rfl, hbl.out _ _⟩
theorem turned_step {l : List Stc} {m : Nat} {s : Stc} (h : l[m]? = some s) : turnedL (l.drop m) = turnedL (l.drop (m + 1)) ++ [otherS s] := by
  obtain ⟨hk, e⟩ := List.getElem?_eq_some_iff.1 h
  rw [List.drop_eq_getElem_cons hk, e]; simp [turnedL]
theorem flat_snoc4 (O : List Stc) (x : Stc) : ((O ++ [x]).map Stc.cells).flatten = (O.map Stc.cells).flatten ++ x.cells := by simp
theorem news4 (W : World) (cs : Array Value) (t : TypeId) (b : Nat) (hb : b = W.heap.size) : ∀ (j : Nat) (u : Value), cs.toList[j]? = some u → (W.alloc (.cells cs t)).cell? ((⟨b, 0, none⟩ : Addr).add j) = some u := fun j u h => by
  subst hb
  rw [show (⟨W.heap.size, 0, none⟩ : Addr).add j = ⟨W.heap.size, j, none⟩ by unfold Addr.add; split <;> simp_all]
  exact cell_new rfl rfl (by simpa using h)
theorem oneS (s : Stc) : ∀ v ∈ s.cells, v.oneCell' = true := by
  intro u hu
  simp only [Stc.cells, List.mem_cons, List.not_mem_nil, or_false] at hu
  rcases hu with rfl | rfl | rfl | rfl <;> rfl
set_option maxHeartbeats 4000000 in
theorem rturned_any (A : Option Addr) (c : Nat) (l : List Stc) (hok : ∀ s ∈ l, s.ok = true) (hn : l.length ≤ 1000) (w : World) (hs : SlT w w.heap.size A l) :
    Calls Try.prog 55 #[.slice A l.length c] w fun e w' => stcOut (turnedL l) w e w' := by
  obtain ⟨i0, hi, hz0, hz1, hz2⟩ := info_parts info_stc
  have hsub : IntKind.i64.wrap ((l.length : Int) - 1) = (l.length : Int) - 1 := IntWalk.i64_in _ (by omega)
  go_enter Try.func55, Try.ntmps55
  go_wp2
  go_loopw [3, 4] (fun s3 s4 wr => ∃ (m : Nat) (vo : Value), m ≤ l.length ∧ s4 = .int .i64 ((m : Int) - 1) ∧ vo = s3 ∧ Hid (wr.ownsRow w.heap.size 56 4 vo (l.length - m) ((turnedL (l.drop m)).map Stc.cells).flatten) ∧ Below w.heap.size w wr) (fun _ s4 _ => (intOf s4 + 1).toNat)
  case atStart => exact ⟨l.length, _, Nat.le_refl _, rfl, rfl, (by rw [Nat.sub_self, List.drop_length]; exact World.ownsRow_nil _ _ _ _), Below.refl _ _⟩
  case round =>
    obtain ⟨m, vo, hm, rfl, rfl, HOw, hbw⟩ := hrel
    cases m with
    | zero =>
      have ho := HOw.out
      rw [Nat.sub_zero, List.drop_zero] at ho
      have hl : (turnedL l).length = l.length := by simp [turnedL]
      rw [← hl] at ho
      obtain ⟨a9, c9, rfl, _⟩ := own_slice ho
      have hT : SlT wr wr.heap.size a9 (turnedL l) := SlS.of_own (cells4 _) (by rw [List.length_map]) ho
      have HO := Lib.hid (show stcOut (turnedL l) w (.returned (.slice a9 (turnedL l).length c9)) wr from ⟨a9, c9, rfl, hT, hbw, fun _ ad had => (ho.lt ad.block (by rw [had]; rfl)).1⟩)
      clear ho hT HOw hs hok
      go_wp2
      go_ret
      exact HO.out
    | succ m =>
      have em : (((m + 1 : Nat) : Int) - 1) = (m : Int) := by omega
      rw [em]
      obtain ⟨b, off, s, rfl, hB, hz, hc⟩ := hs.at_ (k := m) (by omega)
      obtain ⟨c0, c1, c2, c3⟩ := hc.below hbw hB
      have HOt := Lib.hid (fun w => rother_any s (hok s (List.mem_of_getElem? hz)) w)
      have HSt : Hid ((turnedL (l.drop m)) = turnedL (l.drop (m + 1)) ++ [otherS s]) := turned_step hz
      have hln : l.length - m = l.length - (m + 1) + 1 := by omega
      have hbz := hbw.size
      have hsub2 : IntKind.i64.wrap ((m : Int) - 1) = (m : Int) - 1 := IntWalk.i64_in _ (by omega)
      clear hs hok hz hc
      generalize otherS s = s' at HOt HSt
      go_wp2_with (first
        | (go_at_call 76; refine (HOt.out _).mono ?_; rintro e w1 ⟨rfl, hb1⟩; have HO1 := Lib.hid (own_below HOw.out hb1 (Nat.le_refl _)); have hz1' := hb1.size)
        | (at_builtin; refine wpList_append_own _ rfl _ _ 57 rfl w.heap.size 56 i0 (.agg #[.int .u8 0, .bool false, .int .i64 0, .int .i64 0]) 4 24 Try.underlying57 hi hz0 hz1 hz2 rfl (by decide) _ _ _ rfl (HO1.out.alloc _) ⟨w1.heap.size, 0, none⟩ 1 1 s'.cells rfl rfl (news4 w1 _ _ _ rfl) (oneS s') (by unfold maxLen; omega) (by omega) (by simp; omega) ?_; intro v' w4 hown4 hgrow _; have HO4 := Lib.hid hown4; have HG4 := Lib.hid hgrow; clear hown4 hgrow))
      go_roundw
      case rel =>
        refine ⟨m, v', by omega, by go_num, rfl, ?_, ?_⟩
        · rw [HSt.out, flat_snoc4, hln]
          exact HO4.out
        · exact ((hbw.trans (hb1.mono hbw.size)).alloc (by omega) _).grown HG4.out (by simp; omega) (fun g e => (HO1.out.lt g e).1)
      case measure => simp [intOf]
set_option maxHeartbeats 4000000 in
theorem rseen_any (r : RowC) (A : Option Addr) (c : Nat) (hok : ∀ s ∈ r.2, s.ok = true) (hn : r.2.length ≤ 1000) (w : World) (hs : SlT w w.heap.size A r.2) :
    Calls Try.prog 38 #[.agg #[.bool r.1, .slice A r.2.length c]] w fun e w' => stcOut (faceL r) w e w' := by
  obtain ⟨q, l⟩ := r
  simp only at hok hn hs ⊢
  obtain ⟨i0, hi, hz0, hz1, hz2⟩ := info_parts info_stc
  have hbw0 : Below w.heap.size w (w.alloc (.cells #[.bool q, .slice A l.length c] 59)) := (Below.refl _ w).alloc (Nat.le_refl _) _
  have HB0 := Lib.hid hbw0
  cases q with
  | true =>
    have HT := Lib.hid (rturned_any A c l hok hn _ ((hs.below hbw0).more hbw0.size))
    have HF : Hid (faceL (true, l) = turnedL l) := rfl
    clear hs hok hbw0
    go_enter Try.func38, Try.ntmps38
    go_wp2_with (go_at_call 55; refine HT.out.mono ?_; rintro e w1 ⟨a2, c2, rfl, hT2, hb2, hf2⟩)
    go_ret
    rw [HF.out]
    exact ⟨a2, c2, rfl, hT2, HB0.out.trans (hb2.mono HB0.out.size), fun hne ad had => Nat.le_trans HB0.out.size (hf2 hne ad had)⟩
  | false =>
    have HF : Hid (faceL (false, l) = l) := rfl
    cases A with
    | none =>
      have hl : l = [] := by
        cases l with
        | nil => rfl
        | cons a t =>
          obtain ⟨b, off, e, _⟩ := hs (by simp)
          cases e
      subst hl
      have HO : Hid (∀ A c w', Below w.heap.size w w' → stcOut (faceL (false, [])) w (.returned (.slice A 0 c)) w') := fun A c w' hb => ⟨A, c, rfl, SlT.nil, hb, fun h => absurd rfl h⟩
      clear hs hok hbw0
      rw [List.length_nil]
      go_enter Try.func38, Try.ntmps38
      go_wp2
      go_ret
      exact HO.out _ _ _ (HB0.out.alloc HB0.out.size _)
    | some ad =>
      have hnews : ∀ j u, (l.map Stc.cells).flatten[j]? = some u → ((w.alloc (.cells #[.bool false, .slice (some ad) l.length c] 59)).alloc (.cells #[] 56)).cell? (ad.add j) = some u := by
        intro j u hu
        have hne : l.map Stc.cells ≠ [] := fun e => by rw [e] at hu; simp at hu
        obtain ⟨b, off, e, hB, _⟩ := hs hne
        cases e
        have h1 := SlS.flat (cells4 l) hs j u hu
        have e2 : (⟨b, off, none⟩ : Addr).add j = ⟨b, off + j, none⟩ := by unfold Addr.add; split <;> simp_all
        rw [e2] at h1 ⊢
        exact (bcell (hbw0.alloc hbw0.size _) hB _).trans h1
      have HN := Lib.hid hnews
      have hown0 : ((w.alloc (.cells #[.bool false, .slice (some ad) l.length c] 59)).alloc (.cells #[] 56)).ownsRow w.heap.size 56 4 (.slice (some ⟨w.heap.size + 1, 0, none⟩) 0 0) 0 [] := by
        have h := World.ownsRow_lit (base := w.heap.size) (e := 56) (size := 4) (w.alloc (.cells #[.bool false, .slice (some ad) l.length c] 59)) #[] 0 HB0.out.size (by decide) rfl
        rw [World.size_alloc] at h
        exact h
      have HOwn0 := Lib.hid hown0
      have hlen : (l.map Stc.cells).flatten.length = l.length * 4 := by rw [flat_len (cells4 l), List.length_map]
      have HL := Lib.hid hlen
      clear hs hnews hlen hok hbw0 hown0
      go_enter Try.func38, Try.ntmps38
      go_wp2_with (at_builtin; go_loud (refine wpList_append_own _ rfl _ _ 57 rfl w.heap.size 56 i0 (.agg #[.int .u8 0, .bool false, .int .i64 0, .int .i64 0]) 4 24 Try.underlying57 hi hz0 hz1 hz2 rfl (by decide) _ 0 [] rfl HOwn0.out ad l.length c (l.map Stc.cells).flatten rfl HL.out HN.out (one4 l) (by unfold maxLen; omega) (by omega) (by simp <;> omega) ?_; intro v' w1 hown' hgrow hat; have HOw := Lib.hid hown'; have HG := Lib.hid hgrow; clear hown' hgrow hat))
      have ho := HOw.out
      rw [Nat.zero_add, List.nil_append] at ho
      obtain ⟨a2, c2, rfl, _⟩ := own_slice ho
      have hT : SlT w1 w1.heap.size a2 l := SlS.of_own (cells4 l) (by rw [List.length_map]) ho
      have hB : Below w.heap.size w w1 := (HB0.out.alloc HB0.out.size _).grown HG.out (by simp <;> omega) (fun k e => by cases e; simp)
      have HO := Lib.hid (show stcOut (faceL (false, l)) w (.returned (.slice a2 l.length c2)) w1 from ⟨a2, c2, rfl, hT, hB, fun _ ad had => (ho.lt ad.block (by rw [had]; rfl)).1⟩)
      clear ho hT hB HOw HG
      go_ret
      exact HO.out
end Go.Proofs.Ytbnddpknejgmhaa
