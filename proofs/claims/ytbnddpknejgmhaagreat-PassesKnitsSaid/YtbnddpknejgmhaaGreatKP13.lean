/- Layer 30: lay. Layer 30: column, loop. -/
import Derived.Test.YtbnddpknejgmhaaGreatKP12
import Derived.WalkLawsBesides
import Derived.BigRegion
namespace Go.Proofs.YtbnddpknejgmhaaGreat
open Go.RowKit Go.Shelf Go.Sort
set_option maxRecDepth 100000

/-! ### plain facts -/
theorem ris_of_pair {α : Type} {lt : α → α → Bool} : ∀ {l : List α}, l.Pairwise (fun a b => lt a b = true) → risB lt l = true
  | [], _ => rfl
  | [_], _ => rfl
  | a :: b :: t, h => by
    simp only [risB, Bool.and_eq_true]
    have h2 := List.pairwise_cons.1 h
    exact ⟨h2.1 b List.mem_cons_self, ris_of_pair h2.2⟩
theorem Seek.sub {l l' : List Hk} (h : Seek l) (hs : l'.Sublist l) : Seek l' :=
  ⟨Nat.le_trans hs.length_le h.len, fun x hx => h.near x (hs.subset hx), ris_of_pair ((ris_pair ltH_tr h.ris).sublist hs)⟩
theorem filter_app_sub {α : Type} {p q : α → Bool} : ∀ {l : List α}, l.Pairwise (fun a b => q a = true → p b = false) → (∀ x ∈ l, ¬ (p x = true ∧ q x = true)) → (l.filter p ++ l.filter q).Sublist l
  | [], _, _ => by simp
  | a :: l, h, hpq => by
    have h2 := List.pairwise_cons.1 h
    have ih := filter_app_sub h2.2 (fun x hx => hpq x (List.mem_cons_of_mem _ hx))
    cases hp : p a with
    | true =>
      have hq : q a = false := by
        cases hq : q a with
        | false => rfl
        | true => exact absurd ⟨hp, hq⟩ (hpq a List.mem_cons_self)
      rw [List.filter_cons_of_pos hp, List.filter_cons_of_neg (by rw [hq]; simp), List.cons_append]
      exact ih.cons_cons a
    | false =>
      cases hq : q a with
      | false =>
        rw [List.filter_cons_of_neg (by rw [hp]; simp), List.filter_cons_of_neg (by rw [hq]; simp)]
        exact ih.cons a
      | true =>
        have hnil : l.filter p = [] := List.filter_eq_nil_iff.2 fun x hx => by rw [h2.1 x hx hq]; simp
        rw [hnil, List.nil_append] at ih
        rw [List.filter_cons_of_neg (by rw [hp]; simp), hnil, List.nil_append, List.filter_cons_of_pos hq]
        exact ih.cons_cons a
theorem set_sub {α : Type} {f : α → Int} {l : List α} (h : Mono f l) : (setF f [] l).Sublist l := by
  unfold setF loF hiF
  rw [List.nil_append]
  refine filter_app_sub (h.imp fun {a b} hab hq => ?_) (fun x _ ⟨h1, h2⟩ => ?_)
  · have hq := of_decide_eq_true hq
    refine decide_eq_false fun hb => ?_
    have := hab (by omega)
    omega
  · have h1 := of_decide_eq_true h1
    have h2 := of_decide_eq_true h2
    omega
theorem take_sub {s : BedS} (h : Seek s.hooks) (b n : Int) : (takeS s b n).hooks.Sublist s.hooks := by
  unfold takeS putAt
  rw [if_pos rfl]
  exact set_sub (monoH h.ris b n)
theorem set_ne {α : Type} {f : α → Int} {l : List α} : ∀ x ∈ setF f [] l, f x ≠ 0 := fun x hx => by
  unfold setF at hx
  rw [List.nil_append] at hx
  rcases List.mem_append.1 hx with h | h
  · have := loF_lo h; omega
  · have := hiF_hi h; omega
/-- Where a needle that holds nothing is to be laid. -/
theorem found_put {s : BedS} (hk : Seek s.hooks) {b n : Int} {i : Nat} {q : Bool} (hf : Found (fun j => keyH b n ((takeS s b n).hooks.getD j defH)) (takeS s b n).hooks.length i q) {ls : List Int} (hne : ls ≠ []) :
    i ≤ (takeS s b n).hooks.length ∧ putAt s.hooks b n ls = (takeS s b n).hooks.take i ++ ⟨b, n, ls⟩ :: (takeS s b n).hooks.drop i := by
  have hm := monoH (hk.sub (take_sub hk b n)).ris b n
  have h := found_split hm hf
  refine ⟨hf.le, ?_⟩
  have e : (takeS s b n).hooks = setF (keyH b n) [] s.hooks := by unfold takeS putAt; rw [if_pos rfl]
  cases q with
  | true =>
    obtain ⟨⟨x, hx, hz⟩, _⟩ := h.2.1 rfl
    exact absurd hz (set_ne x (by rw [← e]; exact List.mem_of_getElem? hx))
  | false =>
    have h2 := (h.2.2 rfl).1
    rw [← h.1, ← h2, e, loF_set, hiF_set]
    unfold putAt setF
    rw [if_neg hne]
    simp
theorem hook_ins (hv : List (Hk × Value)) (p : Hk × Value) (i : Nat) : (hv.map hookCells).flatten.take (i * 3) ++ (hookCells p ++ (hv.map hookCells).flatten.drop (i * 3)) = ((hv.take i ++ p :: hv.drop i).map hookCells).flatten := by
  have ht : ∀ k (L : List (Hk × Value)), (L.map hookCells).flatten.take (k * 3) = ((L.take k).map hookCells).flatten := by
    intro k
    induction k with
    | zero => intro L; simp
    | succ k ih =>
      intro L
      cases L with
      | nil => simp
      | cons a L =>
        simp only [List.map_cons, List.flatten_cons, List.take_succ_cons]
        rw [show (k + 1) * 3 = (hookCells a).length + k * 3 by simp [hookCells]; omega, List.take_length_add_append, ih]
  have hd : ∀ k (L : List (Hk × Value)), (L.map hookCells).flatten.drop (k * 3) = ((L.drop k).map hookCells).flatten := by
    intro k
    induction k with
    | zero => intro L; simp
    | succ k ih =>
      intro L
      cases L with
      | nil => simp
      | cons a L =>
        simp only [List.map_cons, List.flatten_cons, List.drop_succ_cons]
        rw [show (k + 1) * 3 = (hookCells a).length + k * 3 by simp [hookCells]; omega, List.drop_length_add_append, ih]
  rw [ht, hd]; simp
/-- A stop's value. -/
def stopV (x : Int) : Value := .iface 119 (.agg #[.int .i64 x])
def stopE (x : Int) : Ending := .panicked [{ v := stopV x, recovered := false }]
/-- What a step on the state ends in: it goes on with a state, or it stops. -/
def stepOut (B pb : Nat) (r : Option BedS) (X : List Own) (w : World) (e : Ending) (w' : World) : Prop :=
  match r with
  | some t => e = .returned (.tuple #[]) ∧ WorkX 84 w' B pb t X ∧ Below B w w'
  | none => e = stopE 36 ∧ Owns w' B X ∧ Below B w w'
theorem stepOut.stop {B pb : Nat} {r : Option BedS} {X : List Own} {w w' : World} (h : r = none) (ho : Owns w' B X) (hb : Below B w w') : stepOut B pb r X w (stopE 36) w' := by
  subst h; exact ⟨rfl, ho, hb⟩
theorem stepOut.go {B pb : Nat} {r : Option BedS} {t : BedS} {X : List Own} {w w' : World} (h : r = some t) (hw : WorkX 84 w' B pb t X) (hb : Below B w w') : stepOut B pb r X w (.returned (.tuple #[])) w' := by
  subst h; exact ⟨rfl, hw, hb⟩
set_option maxHeartbeats 4000000 in
theorem lay_any (B pb : Nat) (s : BedS) (X : List Own) (vl : Value) (l : List Int) (hk : Seek s.hooks) (hh : ∀ h ∈ s.hooks, h.loops.length ≤ 6) (hl : l.length ≤ 6) (b n : Int) (hb : 0 ≤ b ∧ b ≤ 1) (hn : needleP n) (w : World) (hBw : B ≤ w.heap.size) (hw : WorkX 84 w B pb s (rowI vl l :: X)) :
    Calls Tryz.prog 91 #[.pointer (some ⟨pb, 0, none⟩), .int .u8 b, .int .i64 n, vl] w fun e w' => stepOut B pb (layS s b n l) (rowI vl l :: X) w e w' := by
  have HTk := Lib.hid (take_any B pb s (rowI vl l :: X) hk b n hb hn w hBw hw)
  have hheld : (heldAt s.hooks b n).length ≤ 6 := by
    unfold heldAt
    split
    · rename_i h hf; exact hh h (List.mem_of_find?_eq_some hf)
    · simp
  have HK := Lib.hid hk
  obtain ⟨i0, hi, hz0, hz1, hz2⟩ := info_parts info_int'
  have HNB := Lib.hid (show _ ∧ _ from ⟨hb, hn⟩)
  clear hw hk hh hb hn
  go_enter Tryz.func91, Tryz.ntmps91
  go_upto_region 0 with fail
  go_cut [3] (fun s3 wr => ∃ v', v' = s3 ∧ Hid (WorkX 84 wr B pb (takeS s b n) (rowI v' (heldAt s.hooks b n ++ l) :: rowI vl l :: X)) ∧ Hid (Below B w wr))
  case first =>
    go_wp2_with fail
    refine HTk.out.mono ?_
    rintro e w1 ⟨v, rfl, hw1, hb1⟩
    obtain ⟨A, c, rfl, hc, -⟩ := rowI_form (hw1.row List.mem_cons_self)
    obtain ⟨A', c', rfl, hc', hs'⟩ := rowI_form (v := vl) (l := l) (hw1.row (by simp))
    have HB1 := Lib.hid hb1
    have HW1 := Lib.hid hw1
    have HL' := Lib.hid (hw1.row (o := rowI (.slice A' l.length c') l) (by simp))
    have hBz := Nat.le_trans hBw hb1.size
    clear hw1 hb1 HTk
    by_cases hln : l = []
    · subst hln
      have HN : Hid (WorkX 84 w1 B pb (takeS s b n) (rowI (.slice A (heldAt s.hooks b n).length c) (heldAt s.hooks b n ++ []) :: rowI (.slice A' ([] : List Int).length c') [] :: X)) := by rw [List.append_nil]; exact HW1
      clear HW1
      cases A' <;> cases A
      all_goals
        go_wp2_with fail
        go_meet
        exact ⟨_, rfl, HN, HB1⟩
    · have hlp : 0 < l.length := List.length_pos_iff.2 hln
      obtain ⟨g', cap', e', -, -⟩ := World.ownsRow.form HL'.out hlp
      have e2 : Value.slice A' l.length c' = .slice (some ⟨g', 0, none⟩) l.length cap' := e'
      cases e2
      have HNw : Hid (∀ j u, (intV l)[j]? = some u → w1.cell? ((⟨g', 0, none⟩ : Addr).add j) = some u) := slI_news hs'
      clear hs' e' HL'
      go_wp2_with (at_builtin; refine wpList_append_lies _ rfl _ _ _ rfl B 3 i0 _ 1 8 Tryz.underlying43 hi hz0 hz1 hz2 rfl (by omega) _ (heldAt s.hooks b n).length (intV (heldAt s.hooks b n)) rfl (HW1.out.row List.mem_cons_self) ⟨g', 0, none⟩ l.length c' (intV l) rfl (by rw [intV_lenB, Nat.mul_one]) HNw.out (intV_one' l) hlp (by unfold maxLen; omega) (by omega) hBz w1.heap.size rfl ?_; intro g cap w2 hown hgrow hat hlt; have HOw := Lib.hid hown; have HG := Lib.hid hgrow; have HA := Lib.hid hat; clear hown hgrow hat)
      go_meet
      refine ⟨_, rfl, ?_, ?_⟩
      · have e3 : (heldAt s.hooks b n ++ l).length = (heldAt s.hooks b n).length + l.length := List.length_append
        refine HW1.out.turn (o' := rowI _ _) HG.out ?_ (fun k hk => ?_)
        · unfold rowI Own.lies
          rw [e3, intV_app]
          exact HOw.out
        · obtain rfl : g = k := Option.some.inj hk
          rcases HA.out with h | h
          · exact Or.inl h
          · exact Or.inr (by omega)
      · exact HB1.out.trans (Below.of_grown HG.out hBz (fun k hk => (World.ownsRow.lt (HW1.out.row List.mem_cons_self) k hk).1))
  case rest =>
    obtain ⟨v', rfl, HW, HB⟩ := hcut
    obtain ⟨A2, c2, rfl, hc2, -⟩ := rowI_form (HW.out.row List.mem_cons_self)
    obtain ⟨ls, hls⟩ : ∃ ls, ls = heldAt s.hooks b n ++ l := ⟨_, rfl⟩
    rw [← hls] at HW hc2 ⊢
    have HS : Hid (layS s b n l = if 6 < ls.length then none else some { s with hooks := putAt s.hooks b n ls }) := by unfold Hid layS; rw [hls]
    have HLs := Lib.hid hls
    clear HTk hls hheld
    by_cases h6 : 6 < ls.length
    · have HF : Hid (layS s b n l = none) := by rw [Hid, HS.out, if_pos h6]
      have HO := Lib.hid HW.out.less.owns
      clear HS HW
      go_wp2
      exact ⟨rfl, stepOut.stop HF.out HO.out HB.out⟩
    have HF : Hid (layS s b n l = some { s with hooks := putAt s.hooks b n ls }) := by rw [Hid, HS.out, if_neg h6]
    clear HS
    by_cases h0 : ls = []
    · subst h0
      have HW2 := Lib.hid HW.out.less
      clear HW hc2
      go_wp2
      refine bodyPost_end (results_none rfl _ _ _) rfl ?_
      exact stepOut.go HF.out HW2.out HB.out
    · have hlp : 0 < ls.length := List.length_pos_iff.2 h0
      have hlp2 : (0 : Int) < (ls.length : Int) := by omega
      obtain ⟨hv, mv, vh, vf, vm, hwa⟩ := HW.out
      obtain ⟨A, c, rfl, hlc, hsl⟩ := hwa.slh
      have hcs := hwa.cells
      have HFi := Lib.hid (find_any pb A c (takeS s b n).hooks (HK.out.sub (take_sub HK.out b n)) b n HNB.out.1 HNB.out.2 wc hcs.2.1 hsl)
      have HWa := Lib.hid hwa
      have hBc : B ≤ wc.heap.size := by have := hwa.base; omega
      clear hwa hsl hcs HW
      go_wp2_with fail
      refine HFi.out.mono ?_
      rintro e w1 ⟨i, q, rfl, hf, hb1⟩
      have HP := Lib.hid (found_put HK.out hf h0)
      have HW1 := Lib.hid (HWa.out.to hb1)
      have HB1 := Lib.hid (HB.out.trans (hb1.mono hBc))
      have hle := hf.le
      clear hf hb1 HFi HWa HB
      have hc1 := HW1.out.cells.2.1
      have hBz : B ≤ w1.heap.size := by have := HW1.out.base; omega
      have HWl : Hid (∀ o, WorkAt 84 (w1.alloc o) B pb (takeS s b n) hv mv (.slice A (takeS s b n).hooks.length c) vf vm (rowI (.slice A2 ls.length c2) ls :: rowI vl l :: X)) := fun o => HW1.out.to ((Below.refl _ _).alloc (Nat.le_refl _) _)
      have HIn : Hid (Calls Tryz.prog 114 #[.slice A (takeS s b n).hooks.length c, .int .i64 i, .slice (some ⟨w1.heap.size, 0, none⟩) 1 1] (w1.alloc (.cells #[.int .u8 b, .int .i64 n, .slice A2 ls.length c2] 87)) fun e w' => insOutH B (takeS s b n).hooks.length (.slice A (takeS s b n).hooks.length c) ((hv.take i ++ (⟨b, n, ls⟩, .slice A2 ls.length c2) :: hv.drop i).map hookCells).flatten (w1.alloc (.cells #[.int .u8 b, .int .i64 n, .slice A2 ls.length c2] 87)) e w') := by
        rw [← hook_ins]
        have hln : hv.length = (takeS s b n).hooks.length := HW1.out.hlen
        have hlen : (takeS s b n).hooks.length ≤ 9000 := (HK.out.sub (take_sub HK.out b n)).len
        refine insertH_any B (takeS s b n).hooks.length i _ _ (one3h fun q hq => own_one (HW1.out.rl hq)) (by omega) _ ?_ hle (by simp; omega) w1.heap.size 1 [.int .u8 b, .int .i64 n, .slice A2 ls.length c2] rfl (heap_alloc_new w1 _) (by intro u hu; simp only [List.mem_cons, List.not_mem_nil, or_false] at hu; rcases hu with rfl | rfl | rfl <;> rfl) ?_
        · have := (HWl.out (.cells #[.int .u8 b, .int .i64 n, .slice A2 ls.length c2] 87)).rh
          unfold rowH Own.lies at this
          rw [hln] at this
          exact this
        · intro e
          have := (World.ownsRow.lt HW1.out.rh _ e).2
          omega
      clear hc1 hle
      have hc1 := (HWl.out (.cells #[.int .u8 b, .int .i64 n, .slice A2 ls.length c2] 87)).cells.2.1
      have hc1' := HW1.out.cells.2.1
      go_wp2_with fail
      refine HIn.out.mono ?_
      rintro e w2 ⟨g, c', rfl, ho, hg, hat⟩
      obtain ⟨-, d1, -, -, d4⟩ := (HWl.out _).struct hg HW1.out.pbH
      have d4' := d4 1
      have HO : Hid (WorkX 84 (w2.setCell ⟨pb, 1, none⟩ (.slice (some ⟨g, 0, none⟩) ((takeS s b n).hooks.length + 1) c')) B pb { s with hooks := putAt s.hooks b n ls } (rowI vl l :: X)) := by
        have hln : hv.length = (takeS s b n).hooks.length := HW1.out.hlen
        refine ⟨hv.take i ++ (⟨b, n, ls⟩, .slice A2 ls.length c2) :: hv.drop i, mv, _, vf, vm, (HWl.out _).setHooks hg ?_ (fun k hk => ?_) ?_ ?_⟩
        · have e1 : (hv.take i ++ ((⟨b, n, ls⟩, .slice A2 ls.length c2) : Hk × Value) :: hv.drop i).length = (takeS s b n).hooks.length + 1 := by
            have := HP.out.1
            simp; omega
          unfold rowH Own.lies
          rw [e1]
          exact ho
        · obtain rfl : g = k := Option.some.inj hk
          rcases hat with h | h
          · exact Or.inl h
          · exact Or.inr (by omega)
        · rw [HP.out.2, ← HW1.out.hooks]; simp
        · rw [List.map_append, List.map_cons]
          have e2 : hv.map rowL = (hv.take i).map rowL ++ (hv.drop i).map rowL := by rw [← List.map_append, List.take_append_drop]
          rw [e2]
          refine List.perm_middle.trans ?_
          refine List.Perm.trans ?_ (List.Perm.append_right _ List.perm_middle.symm)
          exact List.Perm.refl _
      have HB2 := Lib.hid (HB1.out.trans (((Below.refl B w1).alloc hBz (.cells #[.int .u8 b, .int .i64 n, .slice A2 ls.length c2] 87)).trans (Below.of_grown hg (by simp; omega) (fun k hk => (World.ownsRow.lt (HWl.out (.cells #[.int .u8 b, .int .i64 n, .slice A2 ls.length c2] 87)).rh k hk).1))))
      have hpb := HW1.out.base.1
      clear ho hg hat d4 HIn HWl HW1 hc1 hc1'
      go_wp2
      refine bodyPost_end (results_none rfl _ _ _) rfl ?_
      exact stepOut.go HF.out HO.out (HB2.out.setCell (by exact hpb) _)
end Go.Proofs.YtbnddpknejgmhaaGreat
namespace Go.Proofs.YtbnddpknejgmhaaGreat
open Go.RowKit Go.Shelf Go.Sort
set_option maxRecDepth 100000

theorem column_any (pb : Nat) (r b n : Int) (hr : -8 ≤ r ∧ r ≤ 8) (hb : 0 ≤ b ∧ b ≤ 1) (hn : needleP n) (w : World) (hc : w.cell? ⟨pb, 0, none⟩ = some (.int .i64 r)) :
    Calls Tryz.prog 113 #[.pointer (some ⟨pb, 0, none⟩), .int .u8 b, .int .i64 n] w fun e w' => e = .returned (.int .i64 (colI r b n)) ∧ w = w' := by
  unfold needleP at hn
  have hb2 : b = 0 ∨ b = 1 := by omega
  unfold colI
  rcases hb2 with rfl | rfl
  · go_enter Tryz.func113, Tryz.ntmps113
    go_wp2
    go_ret
    exact ⟨ret_int (by omega), rfl⟩
  · go_enter Tryz.func113, Tryz.ntmps113
    go_wp2
    go_ret
    exact ⟨ret_int (by omega), rfl⟩
theorem info_made' : (Tryz.prog.info? 57).map (fun i => (i.zero, i.size, i.bytes)) = some (some (.agg #[.slice none 0 0, .int .u8 0, .int .i64 0, .int .i64 0]), 4, 48) := by kernel_rfl
/-- What loop ends in. -/
def loopOut (B pb : Nat) (s : BedS) (i : Ins) (ps : List Int) (X : List Own) (w : World) (e : Ending) (w' : World) : Prop :=
  if s.made.length = 4000 then e = stopE 4 ∧ Owns w' B X ∧ Below B w w' else e = .returned (.int .i64 (s.made.length : Int)) ∧ WorkX 84 w' B pb (loopS s i ps) X ∧ Below B w w'
theorem loopOut.stop {B pb : Nat} {s : BedS} {i : Ins} {ps : List Int} {X : List Own} {w w' : World} (h : s.made.length = 4000) (ho : Owns w' B X) (hb : Below B w w') : loopOut B pb s i ps X w (stopE 4) w' := by
  unfold loopOut; rw [if_pos h]; exact ⟨rfl, ho, hb⟩
theorem loopOut.go {B pb : Nat} {s : BedS} {i : Ins} {ps : List Int} {X : List Own} {w w' : World} (h : ¬ s.made.length = 4000) {x : Int} (hx : x = (s.made.length : Int)) (hw : WorkX 84 w' B pb (loopS s i ps) X) (hb : Below B w w') : loopOut B pb s i ps X w (.returned (.int .i64 x)) w' := by
  unfold loopOut; rw [if_neg h]; exact ⟨by rw [hx], hw, hb⟩
theorem loop_close {B pb : Nat} {s : BedS} {i : Ins} {ps : List Int} {X : List Own} {w w0 w2 : World} {hv : List (Hk × Value)} {mv : List (Mk × Value)} {vh vf : Value} {A A' : Option Addr} {c c' g cap : Nat} {o : Obj}
    (hw : WorkAt 84 w0 B pb s hv mv vh vf (.slice A s.made.length c) (rowI (.slice A' ps.length c') ps :: X))
    (hl : ∀ o, WorkAt 84 (w0.drew.alloc o) B pb s hv mv vh vf (.slice A s.made.length c) (rowI (.slice A' ps.length c') ps :: X))
    (hz : w0.heap.size = w.heap.size + 1) (hal : Below B w w0)
    (ho : w2.ownsRow B 57 4 (.slice (some ⟨g, 0, none⟩) (s.made.length + 1) cap) (s.made.length + 1) ((mv.map makeCells).flatten ++ [.slice A' ps.length c', .int .u8 i.bed, .int .i64 i.at_, .int .i64 i.car]))
    (hg : (w0.drew.alloc o).grownBy w2 (Value.slice A s.made.length c).ownBlock) (ha : (Value.slice A s.made.length c).ownBlock = some g ∨ g = w.heap.size + 2) (hB : B ≤ w.heap.size) :
    WorkX 84 (w2.setCell ⟨pb, 3, none⟩ (.slice (some ⟨g, 0, none⟩) (s.made.length + 1) cap)) B pb (loopS s i ps) X ∧ Below B w (w2.setCell ⟨pb, 3, none⟩ (.slice (some ⟨g, 0, none⟩) (s.made.length + 1) cap)) := by
  have hml := hw.mlen
  have e1 : ((mv ++ [((⟨ps, i.bed, i.at_, i.car⟩ : Mk), Value.slice A' ps.length c')]).map makeCells).flatten = (mv.map makeCells).flatten ++ [.slice A' ps.length c', .int .u8 i.bed, .int .i64 i.at_, .int .i64 i.car] := by simp [makeCells]
  refine ⟨⟨hv, mv ++ [(⟨ps, i.bed, i.at_, i.car⟩, .slice A' ps.length c')], vh, vf, _, (hl o).setMade hg ?_ (fun k hk => ?_) ?_ ?_⟩, ?_⟩
  · unfold rowM Own.lies
    rw [show (mv ++ [((⟨ps, i.bed, i.at_, i.car⟩ : Mk), Value.slice A' ps.length c')]).length = s.made.length + 1 by rw [List.length_append, hml]; rfl, e1]
    exact ho
  · obtain rfl : g = k := Option.some.inj hk
    rcases ha with h | h
    · exact Or.inl h
    · refine Or.inr ?_
      have e : (w0.drew.alloc o).heap.size = w0.heap.size + 1 := by simp
      rw [e]; omega
  · rw [List.map_append, hw.made]; rfl
  · rw [List.map_append, List.append_assoc]
    exact List.Perm.append_left _ (List.Perm.refl _)
  · have b1 : Below B w (w0.drew.alloc o) := (hal.drew).alloc (by show B ≤ w0.heap.size; omega) o
    have b2 := b1.trans (Below.of_grown hg (by simp; omega) (fun k hk => (World.ownsRow.lt (hl o).rm k hk).1))
    exact b2.setCell (p := ⟨pb, 3, none⟩) hw.base.1 _
set_option maxHeartbeats 4000000 in
theorem loop_any (B pb : Nat) (s : BedS) (i : Ins) (v : Value) (ps : List Int) (X : List Own) (hn : s.made.length ≤ 9000) (w : World) (hBw : B ≤ w.heap.size) (hw : WorkX 84 w B pb s (rowI v ps :: X)) :
    Calls Tryz.prog 92 #[.pointer (some ⟨pb, 0, none⟩), i.val, v] w fun e w' => loopOut B pb s i ps X w e w' := by
  obtain ⟨hv, mv, vh, vf, vm, hw⟩ := hw
  obtain ⟨A, c, rfl, hlc, -⟩ := hw.slm
  obtain ⟨A', c', rfl, -, -⟩ := rowI_form hw.row
  unfold Ins.val
  have HAl := Lib.hid ((Below.refl B w).alloc hBw (.cells #[.int .u8 i.op, .bool i.right, .int .u8 i.bed, .int .i64 i.at_, .int .i64 i.to_, .int .i64 i.car, .int .i64 i.rack] 64))
  have HW := Lib.hid (hw.to ((Below.refl _ w).alloc (Nat.le_refl _) (.cells #[.int .u8 i.op, .bool i.right, .int .u8 i.bed, .int .i64 i.at_, .int .i64 i.to_, .int .i64 i.car, .int .i64 i.rack] 64)))
  have HBx : Hid (∀ W, Below (w.heap.size + 1) (w.alloc (.cells #[.int .u8 i.op, .bool i.right, .int .u8 i.bed, .int .i64 i.at_, .int .i64 i.to_, .int .i64 i.car, .int .i64 i.rack] 64)) W → W.cell? ⟨w.heap.size, 2, none⟩ = some (.int .u8 i.bed) ∧ W.cell? ⟨w.heap.size, 3, none⟩ = some (.int .i64 i.at_) ∧ W.cell? ⟨w.heap.size, 5, none⟩ = some (.int .i64 i.car)) := fun W hb =>
    ⟨(bcell hb (by omega) _).trans (cell_new rfl rfl rfl), (bcell hb (by omega) _).trans (cell_new rfl rfl rfl), (bcell hb (by omega) _).trans (cell_new rfl rfl rfl)⟩
  clear hw
  go_enter Tryz.func92, Tryz.ntmps92
  go_upto_region 1 with fail
  obtain ⟨w0, hw0⟩ : ∃ w0, w0 = w.alloc (.cells #[.int .u8 i.op, .bool i.right, .int .u8 i.bed, .int .i64 i.at_, .int .i64 i.to_, .int .i64 i.car, .int .i64 i.rack] 64) := ⟨_, rfl⟩
  have hz0 : w0.heap.size = w.heap.size + 1 := by rw [hw0]; simp
  rw [← hw0] at HAl HW HBx ⊢
  clear hw0
  obtain ⟨-, -, -, c3, c4⟩ := HW.out.cells
  have c4' := c4 3
  clear c4
  by_cases hm : s.made.length = 4000
  · have hmb : ((s.made.length : Int) == 4000) = true := by simp; omega
    have HM := Lib.hid hm
    clear hm
    go_wp2
    exact ⟨rfl, loopOut.stop HM.out (WorkX.owns ⟨hv, mv, vh, vf, _, HW.out.less⟩) HAl.out⟩
  · have hmb : ((s.made.length : Int) == 4000) = false := beq_eq_false_iff_ne.2 (by omega)
    have HM := Lib.hid hm
    obtain ⟨i0, hi, hz0', hz1, hz2⟩ := info_parts info_made'
    obtain ⟨x2, x3, x5⟩ := HBx.out w0 (Below.refl _ _)
    clear hm
    go_upto_region 3 with fail
    go_cut [31] (fun s31 wr => ∃ v31, v31 = s31 ∧ Hid (WorkX 84 wr B pb (loopS s i ps) X) ∧ Hid (Below B w wr))
    case first =>
      have hown : w0.drew.ownsRow B 57 4 (.slice A s.made.length c) s.made.length (mv.map makeCells).flatten := by
        have := HW.out.rm
        unfold rowM Own.lies at this
        rw [HW.out.mlen] at this
        exact this
      have hpl : pb < w0.heap.size := HW.out.base.2
      have HOw := Lib.hid hown
      clear hown
      have x2' : w0.drew.cell? ⟨w.heap.size, 2, none⟩ = some (.int .u8 i.bed) := x2
      have x3' : w0.drew.cell? ⟨w.heap.size, 3, none⟩ = some (.int .i64 i.at_) := x3
      have x5' : w0.drew.cell? ⟨w.heap.size, 5, none⟩ = some (.int .i64 i.car) := x5
      have c3' : w0.drew.cell? ⟨pb, 3, none⟩ = some (.slice A s.made.length c) := c3
      have HWl : Hid (∀ o, WorkAt 84 (w0.drew.alloc o) B pb s hv mv vh vf (.slice A s.made.length c) (rowI (.slice A' ps.length c') ps :: X)) := fun o => HW.out.to ((Below.drew (Below.refl _ _)).alloc (Nat.le_refl _) _)
      have hpM := Lib.hid HW.out.pbM
      have hBz : B ≤ (w0.drew.alloc (.cells #[.slice A' ps.length c', .int .u8 i.bed, .int .i64 i.at_, .int .i64 i.car] 57)).heap.size := by have := HW.out.base; simp; omega
      have HZ : Hid (w.heap.size + 1 = w0.drew.heap.size) := hz0.symm
      have c3a := cell_al c3 (.cells #[.slice A' ps.length c', .int .u8 i.bed, .int .i64 i.at_, .int .i64 i.car] 57)
      go_region_law (refine step_append_lies _ (by rfl) _ _ _ (by rfl) B 57 i0 _ 4 48 Tryz.underlying37 hi hz0' hz1 hz2 rfl (by omega) _ s.made.length (mv.map makeCells).flatten (by rfl) (HOw.out.alloc _) ⟨w.heap.size + 1, 0, none⟩ 1 1 [.slice A' ps.length c', .int .u8 i.bed, .int .i64 i.at_, .int .i64 i.car] (by rfl) rfl (newsT w0.drew _ _ _ HZ.out) (by intro u hu; simp only [List.mem_cons, List.not_mem_nil, or_false] at hu; rcases hu with rfl | rfl | rfl | rfl <;> rfl) (by omega) (by unfold maxLen; omega) (by omega) hBz (w.heap.size + 2) (by simp [hz0]) ?_; intro g cap w2 hown hgrow hat hlt; obtain ⟨-, -, -, d3, d4⟩ := (HWl.out _).struct hgrow hpM.out; have d4' := d4 3; clear d4; have HO := Lib.hid hown; have HG := Lib.hid hgrow; have HA := Lib.hid hat; clear hown hgrow hat)
      all_goals
        have HF : Hid (WorkX 84 (w2.setCell ⟨pb, 3, none⟩ (.slice (some ⟨g, 0, none⟩) (s.made.length + 1) cap)) B pb (loopS s i ps) X ∧ Below B w (w2.setCell ⟨pb, 3, none⟩ (.slice (some ⟨g, 0, none⟩) (s.made.length + 1) cap))) := loop_close HW.out HWl.out hz0 HAl.out HO.out HG.out HA.out hBw
        clear HO HG HA d3 d4'
        go_wp2_with fail
        go_meet
        exact ⟨_, rfl, HF.out.1, HF.out.2⟩
    case rest =>
      obtain ⟨v31, rfl, HW2, HB2⟩ := hcut
      obtain ⟨hv2, mv2, vh2, vf2, vm2, hw2⟩ := HW2.out
      obtain ⟨A3, c3', rfl, -, -⟩ := hw2.slm
      have d3 := hw2.cells.2.2.2.1
      have hlen : (loopS s i ps).made.length = s.made.length + 1 := by unfold loopS; simp
      rw [hlen] at d3
      clear hw2 hlen c3 c4' x2 x3 x5
      go_wp2
      go_ret
      exact loopOut.go HM.out (by omega) HW2.out HB2.out
end Go.Proofs.YtbnddpknejgmhaaGreat
