/- The reference: feeds brings a carrier in, or takes it out. -/
import Derived.Test.YtjoglkamhjcmhaaKQc
import Derived.Test.YtjoglkamhjcmhaaKQd
import Derived.BigQuiet
namespace Go.Proofs.Ytjoglkamhjcmhaa
open Go.RowKit Go.Shelf Go.Sort
set_option maxRecDepth 100000

/-- The carriers are set anew, behind the pointer. -/
theorem WorkAt.newFeeds {T : TypeId} {w w' : World} {B pb : Nat} {s : BedS} {hv : List (Hk × Value)} {mv : List (Mk × Value)} {vh vf vm v : Value} {X : List Own} {l : List Fd} {b : Nat} (h : WorkAt T w B pb s hv mv vh vf vm X) (hg : Below w.heap.size w w') (hb : w.heap.size ≤ b) (ho : w'.ownsRow b 35 3 v l.length (l.map Fd.cells).flatten) :
    WorkAt T (w'.setCell ⟨pb, 2, none⟩ v) B pb { s with feeds := l } hv mv vh v vm X :=
  h.setFeeds (grown_below hg) (World.ownsRow.mono ho (by have := h.base; omega)) (fun k hk => Or.inr (Nat.le_trans hb (World.ownsRow.lt ho k hk).1))
theorem feed_split {l : List Fd} (hr : risB ltF l = true) {k : Nat} {f : Fd} (hk : l[k]? = some f) : loF (keyF f.car) l = l.take k ∧ hiF (keyF f.car) l = l.drop (k + 1) := by
  obtain ⟨hkl, rfl⟩ := List.getElem?_eq_some_iff.1 hk
  have hp := List.pairwise_iff_getElem.1 (ris_pair ltF_tr hr)
  have e : l = l.take k ++ l[k] :: l.drop (k + 1) := by
    rw [← List.drop_eq_getElem_cons hkl, List.take_append_drop]
  have hlo : ∀ y ∈ l.take k, keyF l[k].car y < 0 := fun y hy => by
    obtain ⟨j, hj, hy⟩ := mem_take_at hy
    obtain ⟨hjl, rfl⟩ := List.getElem?_eq_some_iff.1 hy
    have := of_decide_eq_true (hp j k hjl hkl hj)
    unfold keyF
    omega
  have hhi : ∀ y ∈ l.drop (k + 1), 0 < keyF l[k].car y := fun y hy => by
    obtain ⟨j, hj, hy⟩ := mem_drop_at hy
    obtain ⟨hjl, rfl⟩ := List.getElem?_eq_some_iff.1 hy
    have := of_decide_eq_true (hp k j hkl hjl (by omega))
    unfold keyF
    omega
  generalize hz : l[k] = f at e hlo hhi
  have hz0 : keyF f.car f = 0 := by unfold keyF; omega
  constructor
  · conv => lhs; rw [e]
    rw [loF_app, loF_all hlo, loF_none (fun y hy => by
      rcases List.mem_cons.1 hy with rfl | hy
      · omega
      · have := hhi y hy; omega), List.append_nil]
  · conv => lhs; rw [e]
    have e3 : hiF (keyF f.car) (f :: l.drop (k + 1)) = hiF (keyF f.car) (l.drop (k + 1)) := by unfold hiF; rw [List.filter_cons, if_neg (by simp; omega)]
    rw [hiF_app, hiF_none (fun y hy => by have := hlo y hy; omega), List.nil_append, e3, hiF_all hhi]
theorem own_snocF {W : World} {B : Nat} {v : Value} {l L : List Fd} {f : Fd} (h : W.ownsRow B 35 3 v (l.length + 1) ((l.map Fd.cells).flatten ++ f.cells)) (e : L = l ++ [f]) : W.ownsRow B 35 3 v L.length (L.map Fd.cells).flatten := by
  subst e
  rw [flat_snocF, List.length_append]
  exact h
theorem below_drewN {B : Nat} {w W : World} (h : Below B w W) (n : Nat) : Below B w (W.drewN n) := by
  obtain ⟨a, b, c, d, e⟩ := h
  exact ⟨a, b, c, d, e⟩
theorem own_drew {W : World} {B : Nat} {v : Value} {n : Nat} {xs : List Value} (h : W.ownsRow B 35 3 v n xs) : W.drew.ownsRow B 35 3 v n xs := h
theorem wrap_small (x : Int) (h : 0 ≤ x ∧ x ≤ 1000000) : IntKind.i64.wrap x = x := by
  have e : x % (2 ^ 64 : Int) = x := Int.emod_eq_of_lt h.1 (by omega)
  unfold IntKind.wrap
  simp only [IntKind.bits, IntKind.signed, Bool.true_and, e]
  rw [if_neg (by simp; omega)]
/-- A carrier is left out: the worlds on the way. -/
theorem feeds_out {W : World} {B pb : Nat} {s : BedS} {hv : List (Hk × Value)} {mv : List (Mk × Value)} {vh vm : Value} {X : List Own} {g cf k : Nat} (h : WorkAt 26 W B pb s hv mv vh (.slice (some ⟨g, 0, none⟩) s.feeds.length cf) vm X) (hB : B ≤ W.heap.size) (hk : k < s.feeds.length) (hn : s.feeds.length ≤ 9000) (A3 : Addr) (c3 : Nat) (hA3 : SlF W W.heap.size (some A3) (s.feeds.drop (k + 1))) :
    ∃ A1 c1 w2 A2 c2 w5, (Builtin.append_ #[23, 23] 23 #[.slice (some ⟨W.heap.size, 0, none⟩) 0 0, .slice (some ⟨g, 0, none⟩) k cf]).run Try.prog (W.alloc (.cells #[] 35)).drew = .ok (.slice A1 k c1) w2 ∧
      (Builtin.append_ #[23, 23] 23 #[.slice A1 k c1, .slice (some A3) (s.feeds.length - (k + 1)) c3]).run Try.prog w2 = .ok (.slice A2 (k + (s.feeds.length - (k + 1))) c2) w5 ∧
      w2.cell? ⟨pb, 2, none⟩ = some (.slice (some ⟨g, 0, none⟩) s.feeds.length cf) ∧ w5.cell? ⟨pb, 2, none⟩ = some (.slice (some ⟨g, 0, none⟩) s.feeds.length cf) ∧ (∀ j, w5.frozen? ⟨pb, j, none⟩ = false) ∧
      Hid (WorkX 26 (w5.setCell ⟨pb, 2, none⟩ (.slice A2 (k + (s.feeds.length - (k + 1))) c2)) B pb { s with feeds := s.feeds.take k ++ s.feeds.drop (k + 1) } X) ∧ Hid (Below B W (w5.setCell ⟨pb, 2, none⟩ (.slice A2 (k + (s.feeds.length - (k + 1))) c2))) := by
  obtain ⟨i0, hi, hz0, hz1, hz2⟩ := info_parts info_feed
  have hba : Below W.heap.size W (W.alloc (.cells #[] 35)).drew := ((Below.refl _ W).alloc (Nat.le_refl _) _).drew
  have ho0 : (W.alloc (.cells #[] 35)).drew.ownsRow W.heap.size 35 3 (.slice (some ⟨W.heap.size, 0, none⟩) 0 0) 0 [] :=
    (Owns.to (L := [rowF (.slice (some ⟨W.heap.size, 0, none⟩) 0 0) []]) (Owns.nil.add ((Below.refl _ W).alloc (Nat.le_refl _) _) (Nat.le_refl _) (World.ownsRow_lit (e := 35) W #[] 0 (base := W.heap.size) (size := 3) (Nat.le_refl _) (by decide) rfl)) (Below.drew (Below.refl _ _))).head
  obtain ⟨A0, c0, e0, -, hsl⟩ := h.slf
  cases e0
  have hT : SlF W W.heap.size (some ⟨g, 0, none⟩) (s.feeds.take k) := by
    unfold SlF
    rw [List.map_take]
    exact SlS.take hsl k
  have n1 := hT.news hba
  have lt : (s.feeds.take k).length = k := by rw [List.length_take]; omega
  have ld : (s.feeds.drop (k + 1)).length = s.feeds.length - (k + 1) := by rw [List.length_drop]
  obtain ⟨A1, c1, w2, hr1, ho1, hg1, -⟩ := run_app_any Try.underlying23 hi hz0 hz1 hz2 rfl (by decide) ho0 (some ⟨g, 0, none⟩) k cf ((s.feeds.take k).map Fd.cells).flatten (by rw [flat_len (cells3f _), List.length_map, lt]) (fun e => by cases e) n1.2 (one3f _) (by unfold maxLen; omega) (by omega) hba.size
  rw [Nat.zero_add] at ho1 hr1
  rw [List.nil_append] at ho1
  have hb2 : Below W.heap.size W w2 := hba.grown hg1 hba.size (fun g e => (World.ownsRow.lt ho0 g e).1)
  have n2 := hA3.news hb2
  obtain ⟨A2, c2, w5, hr2, ho2, hg2, -⟩ := run_app_any Try.underlying23 hi hz0 hz1 hz2 rfl (by decide) ho1 (some A3) (s.feeds.length - (k + 1)) c3 ((s.feeds.drop (k + 1)).map Fd.cells).flatten (by rw [flat_len (cells3f _), List.length_map, ld]) (fun e => by cases e) n2.2 (one3f _) (by unfold maxLen; omega) (by omega) hb2.size
  have hb5 : Below W.heap.size W w5 := hb2.grown hg2 hb2.size (fun g e => (World.ownsRow.lt ho1 g e).1)
  have hpl := h.base
  obtain ⟨-, -, q2, -, qf⟩ := h.cells
  have h5 := h.newFeeds (l := s.feeds.take k ++ s.feeds.drop (k + 1)) hb5 (Nat.le_refl _) (v := .slice A2 (k + (s.feeds.length - (k + 1))) c2) (by rw [List.length_append, lt, ld, List.map_append, List.flatten_append]; exact ho2)
  exact ⟨A1, c1, w2, A2, c2, w5, hr1, hr2, (bcell hb2 hpl.2 _).trans q2, (bcell hb5 hpl.2 _).trans q2, fun j => (Below.frozen hb5 (p := ⟨pb, j, none⟩) hpl.2).trans (qf j), ⟨_, _, _, _, _, h5⟩, (hb5.mono hB).setCell (p := ⟨pb, 2, none⟩) hpl.1 _⟩
set_option maxHeartbeats 16000000 in
theorem rfeeds_any (B pb : Nat) (s : BedS) (i : Ins) (X : List Own) (hf : FdOk s) (hop : i.op = 1 ∨ i.op = 2) (w : World) (hBw : B ≤ w.heap.size) (hw : WorkX 26 w B pb s X) :
    Calls Try.prog 63 #[.pointer (some ⟨pb, 0, none⟩), i.val] w fun e w' => codOut B pb (changeS s i) X w e w' := by
  obtain ⟨i0, hi, hz0, hz1, hz2⟩ := info_parts info_feed
  obtain ⟨hv, mv, vh, vf, vm, hw⟩ := hw
  obtain ⟨p, rfl, rfl, rfl, hba⟩ := hw.bed
  have HW := Lib.hid hw
  have HFd := Lib.hid hf
  have HI := Lib.hid (fun W hb => rin_any s p i.car (by have := hf.len; omega) W (hw.bedAt (W := W) hb))
  have HM0 : Hid (MvS B w.heap.size pb s p i (w.alloc (insBox i)) (w.alloc (insBox i))) := by
    have hb := (Below.refl w.heap.size w).alloc (Nat.le_refl _) (insBox i)
    have hc := hw.cells
    exact ⟨BdIn.below ⟨hc.1, hc.2.1, hc.2.2.1, hc.2.2.2.1⟩ hb hw.base.2, InsIn.new w i, Below.refl _ _⟩
  have HAl := Lib.hid ((Below.refl w.heap.size w).alloc (Nat.le_refl _) (insBox i))
  obtain ⟨z, hz⟩ : ∃ z, idxE (fun f : Fd => decide (f.car = i.car)) s.feeds = z := ⟨_, rfl⟩
  have HZ := Lib.hid hz
  rw [hz] at HI
  unfold BedS.val at HI
  unfold Ins.val
  clear hw hba hf hz
  go_enter Try.func63, Try.ntmps63
  go_upto_region 1 with fail
  refine abs_world (Q := fun W => Code.wp _ _ _ _ W) (F := MvS B w.heap.size pb s p i (w.alloc (insBox i))) _ HM0.out ?_
  clear HM0
  intro W hM
  have HM := Lib.hid hM
  clear hM
  have hb0' : Below W.heap.size W W.drew := (Below.refl _ _).drew
  have HSb : Hid (∀ W', Below W.heap.size W W' → W'.cell? ⟨pb, 0, none⟩ = some (.int .i64 s.rack) ∧ W'.cell? ⟨pb, 1, none⟩ = some (.slice p.ah s.hooks.length p.ch) ∧ W'.cell? ⟨pb, 2, none⟩ = some (.slice p.af s.feeds.length p.cf) ∧ W'.cell? ⟨pb, 3, none⟩ = some (.slice p.am s.made.length p.cm) ∧ W'.cell? ⟨w.heap.size, 5, none⟩ = some (.int .i64 i.car) ∧ Below W.heap.size W W') := fun W' hb => by
    have h := HM.out.to hb
    exact ⟨h.st.1, h.st.2.1, h.st.2.2.1, h.st.2.2.2, h.ins.2.2.2.2.2.1, hb⟩
  have HI2 : Hid (∀ W', Below W.heap.size W W' → Below w.heap.size w W') := fun W' hb => (HAl.out.trans (HM.out.lo.mono (by simp))).trans (hb.mono (by have h1 := HM.out.lo.size; have h2 := HAl.out.size; omega))
  go_cut [5] (fun s5 wr => s5 = .int .i64 z ∧ Hid (MvS B w.heap.size pb s p i (w.alloc (insBox i)) wr))
  case first =>
    go_region_held3 (fun W' => W'.cell? ⟨pb, 0, none⟩ = some (.int .i64 s.rack) ∧ W'.cell? ⟨pb, 1, none⟩ = some (.slice p.ah s.hooks.length p.ch) ∧ W'.cell? ⟨pb, 2, none⟩ = some (.slice p.af s.feeds.length p.cf) ∧ W'.cell? ⟨pb, 3, none⟩ = some (.slice p.am s.made.length p.cm) ∧ W'.cell? ⟨w.heap.size, 5, none⟩ = some (.int .i64 i.car) ∧ Below W.heap.size W W')
      (first | (with_reducible exact HSb.out _ (by assumption)) | fail)
      (first | (go_at_call 40; have hp := limb5 (by assumption); refine (HI.out _ (HI2.out _ hp)).mono ?_; rintro e wd ⟨rfl, hbd⟩; have hbw := hp.trans (hbd.mono hp.size); clear hp))
    go_wp2_with fail
    go_meet
    exact ⟨rfl, HM.out.to (by assumption)⟩
  case rest =>
    obtain ⟨rfl, HM2⟩ := hcut
    obtain ⟨w4, rfl⟩ : ∃ x : World, x = wc := ⟨_, rfl⟩
    clear HM HSb hb0' HI HI2
    have HBw : Hid (Below w.heap.size w w4) := HAl.out.trans (HM2.out.lo.mono (by simp))
    have HWc := Lib.hid (HW.out.to HBw.out)
    have hlen := HFd.out.len
    obtain ⟨x0, -, -, -, -, x5, -⟩ := HM2.out.ins
    obtain ⟨c0, c1, c2, c3⟩ := HM2.out.st
    clear HW
    rcases idx_feed HFd.out.ris i.car with ⟨e1, e2⟩ | ⟨k, f, e1, hfk, hfa, hfc, hset⟩
    · obtain rfl : z = -1 := by rw [← HZ.out, e1]
      clear e1 HZ
      rcases hop with hop | hop
      · have b1 : (i.op == 1) = true := by simp [hop]
        have b2 : (i.op == 2) = false := beq_eq_false_iff_ne.2 (by omega)
        have HF : Hid (changeS s i = ({ s with feeds := setF (keyF i.car) [⟨i.car, true, 0⟩] s.feeds }, 0)) := by
          unfold Hid changeS; rw [if_pos hop, e2]; rfl
        have HNe := Lib.hid (feed_none e2)
        have HRis := Lib.hid HFd.out.ris
        have hB4 : B ≤ w4.heap.size := by have := HBw.out.size; omega
        have HSl : Hid (SlF w4 w4.heap.size p.af s.feeds) := by
          obtain ⟨A, c, e, hc, hsl⟩ := HWc.out.slf
          cases e
          exact hsl
        obtain ⟨x, hx⟩ : ∃ x : Fd, x = ⟨i.car, true, 0⟩ := ⟨_, rfl⟩
        have hxc : x.car = i.car := by rw [hx]
        have HXs : Hid (x.cells = [.int .i64 i.car, .bool true, .int .i64 0]) := by show x.cells = _; rw [hx]; rfl
        have HF : Hid (changeS s i = ({ s with feeds := setF (keyF x.car) [x] s.feeds }, 0)) := by show _ = _; rw [hx]; exact HF.out
        have HLen : Hid (∀ k, (insF x (s.feeds.take k)).length ≤ 20000) := fun k => by
          have h1 := insF_len x (s.feeds.take k)
          have h2 : (s.feeds.take k).length ≤ s.feeds.length := by rw [List.length_take]; omega
          omega
        have HKp : Hid (∀ W, Below w4.heap.size w4 W → W.cell? ⟨pb, 2, none⟩ = some (.slice p.af s.feeds.length p.cf) ∧ W.cell? ⟨w.heap.size, 5, none⟩ = some (.int .i64 i.car)) := fun W hb => ⟨(HM2.out.to hb).st.2.2.1, (HM2.out.to hb).ins.2.2.2.2.2.1⟩
        clear hop e2 hx
        go_wp2
        go_loopw [6, 7, 8] (fun s6 s7 s8 wr => ∃ (k : Nat) (v6 : Value), k ≤ s.feeds.length ∧ s8 = .int .i64 (k : Int) ∧ s7 = .bool (anyF x.car (s.feeds.take k)) ∧ v6 = s6 ∧ Hid (wr.ownsRow w4.heap.size 35 3 v6 (insF x (s.feeds.take k)).length ((insF x (s.feeds.take k)).map Fd.cells).flatten) ∧ Hid (Below w4.heap.size w4 wr)) (fun _ _ s8 _ => s.feeds.length - (intOf s8).toNat)
        case atStart => exact ⟨0, _, Nat.zero_le _, rfl, rfl, rfl, World.ownsRow_nil .., Below.refl _ _⟩
        case round =>
          obtain ⟨k, v6, hk, rfl, rfl, rfl, HO, HB⟩ := hrel
          clear c0 c1 c2 c3 x0 x5
          obtain ⟨c2, x5⟩ := HKp.out _ HB.out
          have HLn := Lib.hid (HLen.out k)
          have HSz := Lib.hid HB.out.size
          by_cases hlt : k < s.feeds.length
          case pos =>
            obtain ⟨bb, off, f, hA, hBb, hr, q0, q1, q2⟩ := HSl.out.at_ hlt
            have HKd : Hid (∀ W, Below w4.heap.size w4 W → W.cell? ⟨bb, off + k * 3, none⟩ = some (.int .i64 f.car) ∧ W.cell? ⟨bb, off + k * 3 + 1, none⟩ = some (.bool f.fresh) ∧ W.cell? ⟨bb, off + k * 3 + 2, none⟩ = some (.int .i64 f.place)) := fun W hb => ⟨(bcell hb hBb _).trans q0, (bcell hb hBb _).trans q1, (bcell hb hBb _).trans q2⟩
            obtain ⟨d0, d1, d2⟩ := HKd.out _ HB.out
            rw [hA] at c2 HKp
            have HR := Lib.hid hr
            have hne : f.car ≠ i.car := HNe.out f (List.mem_of_getElem? hr)
            clear q0 q1 q2 hA hBb hr
            cases hdn : anyF x.car (s.feeds.take k) with
            | true =>
              have HF2 := Lib.hid (insF_a HRis.out HR.out hdn)
              clear hdn
              go_upto_region 12 with fail
              go_quiet (fail)
              go_upto_region 15 with fail
              refine abs_world (Q := fun W => Code.wp _ _ _ _ W) (F := fun W => W.ownsRow w4.heap.size 35 3 v6 (insF x (s.feeds.take k)).length ((insF x (s.feeds.take k)).map Fd.cells).flatten ∧ Below w4.heap.size w4 W) _ (by first | exact ⟨HO.out, HB.out⟩ | exact ⟨own_drew HO.out, HB.out.drew⟩ | exact ⟨HO.out, below_drewN HB.out _⟩) ?_
              clear HO HB HSz c2 x5 d0 d1 d2
              rintro W5 ⟨ho, hb⟩
              have HO := Lib.hid ho
              have HB := Lib.hid hb
              have HSz := Lib.hid hb.size
              obtain ⟨c2, x5⟩ := HKp.out _ hb
              obtain ⟨d0, d1, d2⟩ := HKd.out _ hb
              clear ho hb
              go_wp2_with (at_builtin; refine wpList_append_own _ rfl _ _ 23 rfl w4.heap.size 35 i0 (.agg #[.int .i64 0, .bool false, .int .i64 0]) 3 24 Try.underlying23 hi hz0 hz1 hz2 rfl (by decide) _ _ _ rfl (HO.out.alloc _) ⟨W5.heap.size, 0, none⟩ 1 1 [.int .i64 f.car, .bool f.fresh, .int .i64 f.place] rfl rfl (newsT _ _ _ _ (by simp)) (one3F _ _ _) (by have := HLn.out; unfold maxLen; omega) (by have := HLn.out; omega) (by have := HSz.out; simp; omega) ?_; intro v5 w5 ho5 hg5 _)
              have hb5 : Below w4.heap.size W5 w5 := ((Below.refl _ W5).alloc HSz.out _).grown hg5 (by have := HSz.out; simp; omega) (fun g e => (HO.out.lt g e).1)
              have HO5 := Lib.hid (own_snocF (f := f) (l := insF x (s.feeds.take k)) ho5 HF2.out.1)
              have HB5 := Lib.hid (HB.out.trans hb5)
              clear ho5 hb5 hg5
              go_wp2
              go_roundw
              case rel => exact ⟨k + 1, v5, by omega, by go_num, by rw [HF2.out.2], rfl, HO5.out, HB5.out⟩
              case measure => simp [intOf]; omega
            | false =>
              by_cases hgt : i.car < f.car
              · have HF2 := Lib.hid (insF_b (x := x) (fun y hy => by rw [hxc]; exact HNe.out y hy) HR.out hdn (by rw [hxc]; exact hgt))
                have t1 : decide (i.car < f.car) = true := decide_eq_true hgt
                clear hdn hgt
                go_upto_region 12 with fail
                go_quiet (fail)
                go_upto_region 13 with fail
                refine abs_world (Q := fun W => Code.wp _ _ _ _ W) (F := fun W => W.ownsRow w4.heap.size 35 3 v6 (insF x (s.feeds.take k)).length ((insF x (s.feeds.take k)).map Fd.cells).flatten ∧ Below w4.heap.size w4 W) _ (by first | exact ⟨HO.out, HB.out⟩ | exact ⟨own_drew HO.out, HB.out.drew⟩ | exact ⟨HO.out, below_drewN HB.out _⟩) ?_
                clear HO HB HSz c2 x5 d0 d1 d2
                rintro W5 ⟨ho, hb⟩
                have HO := Lib.hid ho
                have HB := Lib.hid hb
                have HSz := Lib.hid hb.size
                obtain ⟨c2, x5⟩ := HKp.out _ hb
                obtain ⟨d0, d1, d2⟩ := HKd.out _ hb
                clear ho hb
                go_upto_region 15 with (at_builtin; refine wpList_append_own _ rfl _ _ 23 rfl w4.heap.size 35 i0 (.agg #[.int .i64 0, .bool false, .int .i64 0]) 3 24 Try.underlying23 hi hz0 hz1 hz2 rfl (by decide) _ _ _ rfl (HO.out.alloc _) ⟨W5.heap.size, 0, none⟩ 1 1 [.int .i64 i.car, .bool true, .int .i64 0] rfl rfl (newsT _ _ _ _ (by simp)) (one3F _ _ _) (by have := HLn.out; unfold maxLen; omega) (by have := HLn.out; omega) (by have := HSz.out; simp; omega) ?_; intro v5 w5 ho5 hg5 _)
                have hb5 : Below w4.heap.size W5 w5 := ((Below.refl _ W5).alloc HSz.out _).grown hg5 (by have := HSz.out; simp; omega) (fun g e => (HO.out.lt g e).1)
                have ho6 := own_snocF (f := x) (l := insF x (s.feeds.take k)) (by rw [HXs.out]; exact ho5) rfl
                have hb6 := HB.out.trans hb5
                clear HO HB HSz c2 x5 d0 d1 d2 ho5 hb5 hg5
                have HO := Lib.hid ho6
                have HB := Lib.hid hb6
                have HSz := Lib.hid hb6.size
                obtain ⟨c2, x5⟩ := HKp.out _ hb6
                obtain ⟨d0, d1, d2⟩ := HKd.out _ hb6
                have HLn : Hid ((insF x (s.feeds.take k) ++ [x]).length ≤ 20001) := by show (insF x (s.feeds.take k) ++ [x]).length ≤ 20001; rw [List.length_append, List.length_singleton]; have := HLn.out; omega
                clear ho6 hb6
                go_wp2_with (at_builtin; refine wpList_append_own _ rfl _ _ 23 rfl w4.heap.size 35 i0 (.agg #[.int .i64 0, .bool false, .int .i64 0]) 3 24 Try.underlying23 hi hz0 hz1 hz2 rfl (by decide) _ _ _ rfl (HO.out.alloc _) ⟨w5.heap.size, 0, none⟩ 1 1 [.int .i64 f.car, .bool f.fresh, .int .i64 f.place] rfl rfl (newsT _ _ _ _ (by simp)) (one3F _ _ _) (by have := HLn.out; unfold maxLen; omega) (by have := HLn.out; omega) (by have := HSz.out; simp; omega) ?_; intro v7 w7 ho5 hg5 _)
                have hb5 : Below w4.heap.size w5 w7 := ((Below.refl _ w5).alloc HSz.out _).grown hg5 (by have := HSz.out; simp; omega) (fun g e => (HO.out.lt g e).1)
                have HO5 := Lib.hid (own_snocF (f := f) (l := insF x (s.feeds.take k) ++ [x]) ho5 HF2.out.1)
                have HB5 := Lib.hid (HB.out.trans hb5)
                clear ho5 hb5 hg5
                go_wp2
                go_roundw
                case rel => exact ⟨k + 1, v7, by omega, by go_num, by rw [HF2.out.2], rfl, HO5.out, HB5.out⟩
                case measure => simp [intOf]; omega
              · have HF2 := Lib.hid (insF_c (x := x) HR.out hdn (by rw [hxc]; omega))
                have t1 : decide (i.car < f.car) = false := decide_eq_false hgt
                clear hdn hgt
                go_upto_region 12 with fail
                go_quiet (fail)
                go_upto_region 15 with fail
                refine abs_world (Q := fun W => Code.wp _ _ _ _ W) (F := fun W => W.ownsRow w4.heap.size 35 3 v6 (insF x (s.feeds.take k)).length ((insF x (s.feeds.take k)).map Fd.cells).flatten ∧ Below w4.heap.size w4 W) _ (by first | exact ⟨HO.out, HB.out⟩ | exact ⟨own_drew HO.out, HB.out.drew⟩ | exact ⟨HO.out, below_drewN HB.out _⟩) ?_
                clear HO HB HSz c2 x5 d0 d1 d2
                rintro W5 ⟨ho, hb⟩
                have HO := Lib.hid ho
                have HB := Lib.hid hb
                have HSz := Lib.hid hb.size
                obtain ⟨c2, x5⟩ := HKp.out _ hb
                obtain ⟨d0, d1, d2⟩ := HKd.out _ hb
                clear ho hb
                go_wp2_with (at_builtin; refine wpList_append_own _ rfl _ _ 23 rfl w4.heap.size 35 i0 (.agg #[.int .i64 0, .bool false, .int .i64 0]) 3 24 Try.underlying23 hi hz0 hz1 hz2 rfl (by decide) _ _ _ rfl (HO.out.alloc _) ⟨W5.heap.size, 0, none⟩ 1 1 [.int .i64 f.car, .bool f.fresh, .int .i64 f.place] rfl rfl (newsT _ _ _ _ (by simp)) (one3F _ _ _) (by have := HLn.out; unfold maxLen; omega) (by have := HLn.out; omega) (by have := HSz.out; simp; omega) ?_; intro v5 w5 ho5 hg5 _)
                have hb5 : Below w4.heap.size W5 w5 := ((Below.refl _ W5).alloc HSz.out _).grown hg5 (by have := HSz.out; simp; omega) (fun g e => (HO.out.lt g e).1)
                have HO5 := Lib.hid (own_snocF (f := f) (l := insF x (s.feeds.take k)) ho5 HF2.out.1)
                have HB5 := Lib.hid (HB.out.trans hb5)
                clear ho5 hb5 hg5
                go_wp2
                go_roundw
                case rel => exact ⟨k + 1, v5, by omega, by go_num, by rw [HF2.out.2], rfl, HO5.out, HB5.out⟩
                case measure => simp [intOf]; omega
          case neg =>
            have hke : s.feeds.take k = s.feeds := List.take_of_length_le (by omega)
            rw [hke] at HO HLn ⊢
            have HE := Lib.hid (insF_end (x := x) (l := s.feeds) (fun y hy => by rw [hxc]; exact HNe.out y hy))
            have HWn : Hid (∀ W v L, Below w4.heap.size w4 W → W.ownsRow w4.heap.size 35 3 v L.length (L.map Fd.cells).flatten → L = setF (keyF x.car) [x] s.feeds → codOut B pb (changeS s i) X w (.returned (.int .i64 0)) (W.setCell ⟨pb, 2, none⟩ v)) := fun W v L hb ho hL => by
              subst hL
              exact codOut.go HF.out ⟨_, _, _, _, _, HWc.out.newFeeds hb (Nat.le_refl _) ho⟩ (((HBw.out.mono hBw).trans (hb.mono hB4)).setCell (p := ⟨pb, 2, none⟩) HWc.out.base.1 _)
            have hfz : ∀ W, Below w4.heap.size w4 W → ∀ j, W.frozen? ⟨pb, j, none⟩ = false := fun W hb j => (Below.frozen hb (p := ⟨pb, j, none⟩) HWc.out.base.2).trans (HWc.out.cells.2.2.2.2 j)
            have HFz := Lib.hid hfz
            clear hke hfz
            cases hdn : anyF x.car s.feeds with
            | true =>
              obtain ⟨A6, c6, rfl, -⟩ := own_slice HO.out
              have hO := HWn.out _ _ _ HB.out HO.out (HE.out.1 hdn)
              have HOut := Lib.hid hO
              have fz := HFz.out _ HB.out
              clear HWn HE hO HO HB HF HWc HFz
              go_wp2
              go_ret
              exact HOut.out
            | false =>
              go_upto_region 18 with (at_builtin; refine wpList_append_own _ rfl _ _ 23 rfl w4.heap.size 35 i0 (.agg #[.int .i64 0, .bool false, .int .i64 0]) 3 24 Try.underlying23 hi hz0 hz1 hz2 rfl (by decide) _ _ _ rfl (HO.out.alloc _) ⟨wr.heap.size, 0, none⟩ 1 1 [.int .i64 i.car, .bool true, .int .i64 0] rfl rfl (newsT _ _ _ _ (by simp)) (one3F _ _ _) (by have := HLn.out; unfold maxLen; omega) (by have := HLn.out; omega) (by have := HSz.out; simp; omega) ?_; intro v5 w5 ho5 hg5 _)
              have hb5 : Below w4.heap.size wr w5 := ((Below.refl _ wr).alloc HSz.out _).grown hg5 (by have := HSz.out; simp; omega) (fun g e => (HO.out.lt g e).1)
              have ho6 := own_snocF (f := x) (l := insF x s.feeds) (by rw [HXs.out]; exact ho5) rfl
              have hb6 := HB.out.trans hb5
              obtain ⟨A6, c6, rfl, -⟩ := own_slice ho5
              have hO := HWn.out _ _ _ hb6 ho6 (HE.out.2 hdn)
              have HOut := Lib.hid hO
              have fz := HFz.out _ hb6
              clear c2 x5
              obtain ⟨c2, x5⟩ := HKp.out _ hb6
              clear HWn HE hO HO HB HF HWc HFz ho6 hb6 hb5 ho5 hg5 hdn
              go_wp2
              go_ret
              exact HOut.out
      · have b1 : (i.op == 1) = false := beq_eq_false_iff_ne.2 (by omega)
        have HF : Hid (changeS s i = (bed0, 36)) := by unfold Hid changeS; rw [if_neg (by omega), e2]; rfl
        have HO := Lib.hid (codOut.stop (pb := pb) (X := X) (w := w) HF.out (by decide) (HBw.out.mono hBw))
        clear HM2 HF hop HWc HBw e2
        go_wp2
        go_ret
        exact HO.out
    · obtain rfl : z = (k : Int) := by rw [← HZ.out, e1]
      have hkl : k < s.feeds.length := (List.getElem?_eq_some_iff.1 hfk).1
      have e6 : decide ((k : Int) < 0) = false := decide_eq_false (by omega)
      rcases hop with hop | hop
      · have b1 : (i.op == 1) = true := by simp [hop]
        have HF : Hid (changeS s i = (bed0, 36)) := by unfold Hid changeS; rw [if_pos hop, hfa]; rfl
        have HO := Lib.hid (codOut.stop (pb := pb) (X := X) (w := w) HF.out (by decide) (HBw.out.mono hBw))
        clear HM2 HF hop HWc HBw hfa hfc hset hfk e1
        go_wp2
        go_ret
        exact HO.out
      · have b1 : (i.op == 1) = false := beq_eq_false_iff_ne.2 (by omega)
        have b2 : (i.op == 2) = true := by simp [hop]
        have HF : Hid (changeS s i = ({ s with feeds := s.feeds.take k ++ s.feeds.drop (k + 1) }, 0)) := by
          have h2 := feed_split HFd.out.ris hfk
          rw [hfc] at h2
          unfold Hid changeS
          rw [if_neg (by omega), hfa]
          unfold setF
          rw [h2.1, h2.2]
          rfl
        obtain ⟨g, hgf⟩ : ∃ g, p.af = some ⟨g, 0, none⟩ := by
          have hrf : w4.ownsRow B 35 3 (.slice p.af s.feeds.length p.cf) s.feeds.length (s.feeds.map Fd.cells).flatten := HWc.out.rf
          obtain ⟨g, cap, e, _⟩ := World.ownsRow.form hrf (by omega)
          exact ⟨g, (Value.slice.inj e).1⟩
        rw [hgf] at c2
        have hcf : s.feeds.length ≤ p.cf := by
          obtain ⟨A, c, e, hc, -⟩ := HWc.out.slf
          cases e
          exact hc
        have hk9 : k < 9000 := by omega
        have hwr : IntKind.i64.wrap ((k : Int) + 1) = (k : Int) + 1 := wrap_small _ ⟨by omega, by omega⟩
        have htn : ((k : Int) + 1).toNat = k + 1 := by omega
        have hkk : (k : Int) ≤ (k : Int) + 1 := by omega
        have hk0 : (0 : Int) ≤ (k : Int) := by omega
        have hkc : (k : Int) ≤ (p.cf : Int) := by omega
        have hk1 : (0 : Int) ≤ (k : Int) + 1 := by omega
        have hk2 : (k : Int) + 1 ≤ (s.feeds.length : Int) := by omega
        have hk3 : (s.feeds.length : Int) ≤ (p.cf : Int) := by omega
        have c2a := fun o => cell_al c2 o
        have hB4 : B ≤ w4.heap.size := by have := HBw.out.size; omega
        have hW4 := HWc.out
        rw [hgf] at hW4
        have HW4 := Lib.hid hW4
        have hsl : SlF w4 w4.heap.size (some ⟨g, 0, none⟩) s.feeds := by
          obtain ⟨A, c, e, hc, hsl⟩ := hW4.slf
          cases e
          exact hsl
        have HSl := Lib.hid hsl
        clear hop e1 hfa hfc hset hfk hW4 hsl HWc HM2
        go_upto_region 5 with fail
        by_cases hcc : p.cf = k + 1
        · have hc0 : p.cf - (k + 1) = 0 := by omega
          obtain ⟨A1, c1', w2, A2, c2', w5, hr1, hr2, q2, q5, qf, HWn, HBn⟩ := feeds_out HW4.out hB4 hkl hlen ⟨g, 0, none⟩ 0 (fun hn => absurd (by rw [List.drop_eq_nil_of_le (by omega)]; rfl) hn)
          rw [hcc] at hr1
          have HO := Lib.hid (codOut.go (w := w) (pb := pb) (X := X) HF.out HWn.out ((HBw.out.mono hBw).trans HBn.out))
          clear HWn HBn HF
          go_region_law (first | ((with_reducible refine at_world ((w4.alloc (.cells #[] 35)).drew) ?_); refine step_append_run (by rfl) _ _ _ _ (by rfl) _ _ (by rfl) (by rfl) hr1 ?_) | ((with_reducible refine at_world w2 ?_); refine step_append_run (by rfl) _ _ _ _ (by rfl) _ _ (by rfl) (by rfl) hr2 ?_) | fail)
          all_goals
            go_wp2
            go_ret
            exact HO.out
        · obtain ⟨A1, c1', w2, A2, c2', w5, hr1, hr2, q2, q5, qf, HWn, HBn⟩ := feeds_out HW4.out hB4 hkl hlen ⟨g, (k + 1) * 3, none⟩ (p.cf - (k + 1)) (by
            have h0 := SlS.drop HSl.out (k + 1)
            rw [Nat.zero_add] at h0
            unfold SlF
            rw [List.map_drop]
            exact h0)
          have HO := Lib.hid (codOut.go (w := w) (pb := pb) (X := X) HF.out HWn.out ((HBw.out.mono hBw).trans HBn.out))
          clear HWn HBn HF
          go_region_law (first | ((with_reducible refine at_world ((w4.alloc (.cells #[] 35)).drew) ?_); refine step_append_run (by rfl) _ _ _ _ (by rfl) _ _ (by rfl) (by rfl) hr1 ?_) | ((with_reducible refine at_world w2 ?_); refine step_append_run (by rfl) _ _ _ _ (by rfl) _ _ (by rfl) (by rfl) hr2 ?_) | fail)
          all_goals
            go_wp2
            go_ret
            exact HO.out
end Go.Proofs.Ytjoglkamhjcmhaa
