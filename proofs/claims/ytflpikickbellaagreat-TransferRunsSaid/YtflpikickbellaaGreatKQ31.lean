/- Layer 30: lay. -/
import Derived.Test.YtflpikickbellaaGreatKQ30
import Derived.WalkLawsBesides
namespace Go.Proofs.YtflpikickbellaaGreat
open Go.RowKit Go.Shelf Go.Sort
set_option maxRecDepth 100000

/-! ### plain facts -/
theorem ris_of_pair {α : Type} {lt : α → α → Bool} : ∀ {l : List α}, l.Pairwise (fun a b => lt a b = true) → risB lt l = true
  | [], _ => rfl
  | [_], _ => rfl
  | a :: b :: t, h => by
    simp only [risB, Bool.and_eq_true]
    have h2 := List.pairwise_cons.1 h
    exact ⟨h2.1 b List.mem_cons_self, ris_of_pair h2.2⟩
theorem Seek.sub {l l' : List Hk} (h : Seek l) (hs : l'.Sublist l) : Seek l' :=
  ⟨Nat.le_trans hs.length_le h.len, fun x hx => h.near x (hs.subset hx), ris_of_pair ((ris_pair ltH_tr h.ris).sublist hs)⟩
theorem filter_app_sub {α : Type} {p q : α → Bool} : ∀ {l : List α}, l.Pairwise (fun a b => q a = true → p b = false) → (∀ x ∈ l, ¬ (p x = true ∧ q x = true)) → (l.filter p ++ l.filter q).Sublist l
  | [], _, _ => by simp
  | a :: l, h, hpq => by
    have h2 := List.pairwise_cons.1 h
    have ih := filter_app_sub h2.2 (fun x hx => hpq x (List.mem_cons_of_mem _ hx))
    cases hp : p a with
    | true =>
      have hq : q a = false := by
        cases hq : q a with
        | false => rfl
        | true => exact absurd ⟨hp, hq⟩ (hpq a List.mem_cons_self)
      rw [List.filter_cons_of_pos hp, List.filter_cons_of_neg (by rw [hq]; simp), List.cons_append]
      exact ih.cons_cons a
    | false =>
      cases hq : q a with
      | false =>
        rw [List.filter_cons_of_neg (by rw [hp]; simp), List.filter_cons_of_neg (by rw [hq]; simp)]
        exact ih.cons a
      | true =>
        have hnil : l.filter p = [] := List.filter_eq_nil_iff.2 fun x hx => by rw [h2.1 x hx hq]; simp
        rw [hnil, List.nil_append] at ih
        rw [List.filter_cons_of_neg (by rw [hp]; simp), hnil, List.nil_append, List.filter_cons_of_pos hq]
        exact ih.cons_cons a
theorem set_sub {α : Type} {f : α → Int} {l : List α} (h : Mono f l) : (setF f [] l).Sublist l := by
  unfold setF loF hiF
  rw [List.nil_append]
  refine filter_app_sub (h.imp fun {a b} hab hq => ?_) (fun x _ ⟨h1, h2⟩ => ?_)
  · have hq := of_decide_eq_true hq
    refine decide_eq_false fun hb => ?_
    have := hab (by omega)
    omega
  · have h1 := of_decide_eq_true h1
    have h2 := of_decide_eq_true h2
    omega
theorem take_sub {s : BedS} (h : Seek s.hooks) (b n : Int) : (takeS s b n).hooks.Sublist s.hooks := by
  unfold takeS putAt
  rw [if_pos rfl]
  exact set_sub (monoH h.ris b n)
theorem set_ne {α : Type} {f : α → Int} {l : List α} : ∀ x ∈ setF f [] l, f x ≠ 0 := fun x hx => by
  unfold setF at hx
  rw [List.nil_append] at hx
  rcases List.mem_append.1 hx with h | h
  · have := loF_lo h; omega
  · have := hiF_hi h; omega
/-- Where a needle that holds nothing is to be laid. -/
theorem found_put {s : BedS} (hk : Seek s.hooks) {b n : Int} {i : Nat} {q : Bool} (hf : Found (fun j => keyH b n ((takeS s b n).hooks.getD j defH)) (takeS s b n).hooks.length i q) {ls : List Int} (hne : ls ≠ []) :
    i ≤ (takeS s b n).hooks.length ∧ putAt s.hooks b n ls = (takeS s b n).hooks.take i ++ ⟨b, n, ls⟩ :: (takeS s b n).hooks.drop i := by
  have hm := monoH (hk.sub (take_sub hk b n)).ris b n
  have h := found_split hm hf
  refine ⟨hf.le, ?_⟩
  have e : (takeS s b n).hooks = setF (keyH b n) [] s.hooks := by unfold takeS putAt; rw [if_pos rfl]
  cases q with
  | true =>
    obtain ⟨⟨x, hx, hz⟩, _⟩ := h.2.1 rfl
    exact absurd hz (set_ne x (by rw [← e]; exact List.mem_of_getElem? hx))
  | false =>
    have h2 := (h.2.2 rfl).1
    rw [← h.1, ← h2, e, loF_set, hiF_set]
    unfold putAt setF
    rw [if_neg hne]
    simp
theorem hook_ins (hv : List (Hk × Value)) (p : Hk × Value) (i : Nat) : (hv.map hookCells).flatten.take (i * 3) ++ (hookCells p ++ (hv.map hookCells).flatten.drop (i * 3)) = ((hv.take i ++ p :: hv.drop i).map hookCells).flatten := by
  have ht : ∀ k (L : List (Hk × Value)), (L.map hookCells).flatten.take (k * 3) = ((L.take k).map hookCells).flatten := by
    intro k
    induction k with
    | zero => intro L; simp
    | succ k ih =>
      intro L
      cases L with
      | nil => simp
      | cons a L =>
        simp only [List.map_cons, List.flatten_cons, List.take_succ_cons]
        rw [show (k + 1) * 3 = (hookCells a).length + k * 3 by simp [hookCells]; omega, List.take_length_add_append, ih]
  have hd : ∀ k (L : List (Hk × Value)), (L.map hookCells).flatten.drop (k * 3) = ((L.drop k).map hookCells).flatten := by
    intro k
    induction k with
    | zero => intro L; simp
    | succ k ih =>
      intro L
      cases L with
      | nil => simp
      | cons a L =>
        simp only [List.map_cons, List.flatten_cons, List.drop_succ_cons]
        rw [show (k + 1) * 3 = (hookCells a).length + k * 3 by simp [hookCells]; omega, List.drop_length_add_append, ih]
  rw [ht, hd]; simp
/-- A stop's value. -/
def stopV (x : Int) : Value := .iface 135 (.agg #[.int .i64 x])
def stopE (x : Int) : Ending := .panicked [{ v := stopV x, recovered := false }]
/-- What a step on the state ends in: it goes on with a state, or it stops. -/
def stepOut (B pb : Nat) (r : Option BedS) (X : List Own) (w : World) (e : Ending) (w' : World) : Prop :=
  match r with
  | some t => e = .returned (.tuple #[]) ∧ WorkX 90 w' B pb t X ∧ Below B w w'
  | none => e = stopE 36 ∧ Owns w' B X ∧ Below B w w'
theorem stepOut.stop {B pb : Nat} {r : Option BedS} {X : List Own} {w w' : World} (h : r = none) (ho : Owns w' B X) (hb : Below B w w') : stepOut B pb r X w (stopE 36) w' := by
  subst h; exact ⟨rfl, ho, hb⟩
theorem stepOut.go {B pb : Nat} {r : Option BedS} {t : BedS} {X : List Own} {w w' : World} (h : r = some t) (hw : WorkX 90 w' B pb t X) (hb : Below B w w') : stepOut B pb r X w (.returned (.tuple #[])) w' := by
  subst h; exact ⟨rfl, hw, hb⟩
set_option maxHeartbeats 4000000 in
theorem lay_any (B pb : Nat) (s : BedS) (X : List Own) (vl : Value) (l : List Int) (hk : Seek s.hooks) (hh : ∀ h ∈ s.hooks, h.loops.length ≤ 6) (hl : l.length ≤ 6) (b n : Int) (hb : 0 ≤ b ∧ b ≤ 1) (hn : needleP n) (w : World) (hBw : B ≤ w.heap.size) (hw : WorkX 90 w B pb s (rowI vl l :: X)) :
    Calls Tryz.prog 102 #[.pointer (some ⟨pb, 0, none⟩), .int .u8 b, .int .i64 n, vl] w fun e w' => stepOut B pb (layS s b n l) (rowI vl l :: X) w e w' := by
  have HTk := Lib.hid (take_any B pb s (rowI vl l :: X) hk b n hb hn w hBw hw)
  have hheld : (heldAt s.hooks b n).length ≤ 6 := by
    unfold heldAt
    split
    · rename_i h hf; exact hh h (List.mem_of_find?_eq_some hf)
    · simp
  have HK := Lib.hid hk
  obtain ⟨i0, hi, hz0, hz1, hz2⟩ := info_parts info_int'
  have HNB := Lib.hid (show _ ∧ _ from ⟨hb, hn⟩)
  clear hw hk hh hb hn
  go_enter Tryz.func102, Tryz.ntmps102
  go_upto_region 0 with fail
  go_cut [3] (fun s3 wr => ∃ v', v' = s3 ∧ Hid (WorkX 90 wr B pb (takeS s b n) (rowI v' (heldAt s.hooks b n ++ l) :: rowI vl l :: X)) ∧ Hid (Below B w wr))
  case first =>
    go_wp2_with fail
    refine HTk.out.mono ?_
    rintro e w1 ⟨v, rfl, hw1, hb1⟩
    obtain ⟨A, c, rfl, hc, -⟩ := rowI_form (hw1.row List.mem_cons_self)
    obtain ⟨A', c', rfl, hc', hs'⟩ := rowI_form (v := vl) (l := l) (hw1.row (by simp))
    have HB1 := Lib.hid hb1
    have HW1 := Lib.hid hw1
    have HL' := Lib.hid (hw1.row (o := rowI (.slice A' l.length c') l) (by simp))
    have hBz := Nat.le_trans hBw hb1.size
    clear hw1 hb1 HTk
    by_cases hln : l = []
    · subst hln
      have HN : Hid (WorkX 90 w1 B pb (takeS s b n) (rowI (.slice A (heldAt s.hooks b n).length c) (heldAt s.hooks b n ++ []) :: rowI (.slice A' ([] : List Int).length c') [] :: X)) := by rw [List.append_nil]; exact HW1
      clear HW1
      cases A' <;> cases A
      all_goals
        go_wp2_with fail
        go_meet
        exact ⟨_, rfl, HN, HB1⟩
    · have hlp : 0 < l.length := List.length_pos_iff.2 hln
      obtain ⟨g', cap', e', -, -⟩ := World.ownsRow.form HL'.out hlp
      have e2 : Value.slice A' l.length c' = .slice (some ⟨g', 0, none⟩) l.length cap' := e'
      cases e2
      have HNw : Hid (∀ j u, (intV l)[j]? = some u → w1.cell? ((⟨g', 0, none⟩ : Addr).add j) = some u) := slI_news hs'
      clear hs' e' HL'
      go_wp2_with (at_builtin; refine wpList_append_lies _ rfl _ _ _ rfl B 3 i0 _ 1 8 Tryz.underlying22 hi hz0 hz1 hz2 rfl (by omega) _ (heldAt s.hooks b n).length (intV (heldAt s.hooks b n)) rfl (HW1.out.row List.mem_cons_self) ⟨g', 0, none⟩ l.length c' (intV l) rfl (by rw [intV_lenB, Nat.mul_one]) HNw.out (intV_one' l) hlp (by unfold maxLen; omega) (by omega) hBz w1.heap.size rfl ?_; intro g cap w2 hown hgrow hat hlt; have HOw := Lib.hid hown; have HG := Lib.hid hgrow; have HA := Lib.hid hat; clear hown hgrow hat)
      go_meet
      refine ⟨_, rfl, ?_, ?_⟩
      · have e3 : (heldAt s.hooks b n ++ l).length = (heldAt s.hooks b n).length + l.length := List.length_append
        refine HW1.out.turn (o' := rowI _ _) HG.out ?_ (fun k hk => ?_)
        · unfold rowI Own.lies
          rw [e3, intV_app]
          exact HOw.out
        · obtain rfl : g = k := Option.some.inj hk
          rcases HA.out with h | h
          · exact Or.inl h
          · exact Or.inr (by omega)
      · exact HB1.out.trans (Below.of_grown HG.out hBz (fun k hk => (World.ownsRow.lt (HW1.out.row List.mem_cons_self) k hk).1))
  case rest =>
    obtain ⟨v', rfl, HW, HB⟩ := hcut
    obtain ⟨A2, c2, rfl, hc2, -⟩ := rowI_form (HW.out.row List.mem_cons_self)
    obtain ⟨ls, hls⟩ : ∃ ls, ls = heldAt s.hooks b n ++ l := ⟨_, rfl⟩
    rw [← hls] at HW hc2 ⊢
    have HS : Hid (layS s b n l = if 6 < ls.length then none else some { s with hooks := putAt s.hooks b n ls }) := by unfold Hid layS; rw [hls]
    have HLs := Lib.hid hls
    clear HTk hls hheld
    by_cases h6 : 6 < ls.length
    · have HF : Hid (layS s b n l = none) := by rw [Hid, HS.out, if_pos h6]
      have HO := Lib.hid HW.out.less.owns
      clear HS HW
      go_wp2
      exact ⟨rfl, stepOut.stop HF.out HO.out HB.out⟩
    have HF : Hid (layS s b n l = some { s with hooks := putAt s.hooks b n ls }) := by rw [Hid, HS.out, if_neg h6]
    clear HS
    by_cases h0 : ls = []
    · subst h0
      have HW2 := Lib.hid HW.out.less
      clear HW hc2
      go_wp2
      refine bodyPost_end (results_none rfl _ _ _) rfl ?_
      exact stepOut.go HF.out HW2.out HB.out
    · have hlp : 0 < ls.length := List.length_pos_iff.2 h0
      have hlp2 : (0 : Int) < (ls.length : Int) := by omega
      obtain ⟨hv, mv, vh, vf, vm, hwa⟩ := HW.out
      obtain ⟨A, c, rfl, hlc, hsl⟩ := hwa.slh
      have hcs := hwa.cells
      have HFi := Lib.hid (find_any pb A c (takeS s b n).hooks (HK.out.sub (take_sub HK.out b n)) b n HNB.out.1 HNB.out.2 wc hcs.2.1 hsl)
      have HWa := Lib.hid hwa
      have hBc : B ≤ wc.heap.size := by have := hwa.base; omega
      clear hwa hsl hcs HW
      go_wp2_with fail
      refine HFi.out.mono ?_
      rintro e w1 ⟨i, q, rfl, hf, hb1⟩
      have HP := Lib.hid (found_put HK.out hf h0)
      have HW1 := Lib.hid (HWa.out.to hb1)
      have HB1 := Lib.hid (HB.out.trans (hb1.mono hBc))
      have hle := hf.le
      clear hf hb1 HFi HWa HB
      have hc1 := HW1.out.cells.2.1
      have hBz : B ≤ w1.heap.size := by have := HW1.out.base; omega
      have HWl : Hid (∀ o, WorkAt 90 (w1.alloc o) B pb (takeS s b n) hv mv (.slice A (takeS s b n).hooks.length c) vf vm (rowI (.slice A2 ls.length c2) ls :: rowI vl l :: X)) := fun o => HW1.out.to ((Below.refl _ _).alloc (Nat.le_refl _) _)
      have HIn : Hid (Calls Tryz.prog 143 #[.slice A (takeS s b n).hooks.length c, .int .i64 i, .slice (some ⟨w1.heap.size, 0, none⟩) 1 1] (w1.alloc (.cells #[.int .u8 b, .int .i64 n, .slice A2 ls.length c2] 82)) fun e w' => insOutH B (takeS s b n).hooks.length (.slice A (takeS s b n).hooks.length c) ((hv.take i ++ (⟨b, n, ls⟩, .slice A2 ls.length c2) :: hv.drop i).map hookCells).flatten (w1.alloc (.cells #[.int .u8 b, .int .i64 n, .slice A2 ls.length c2] 82)) e w') := by
        rw [← hook_ins]
        have hln : hv.length = (takeS s b n).hooks.length := HW1.out.hlen
        have hlen : (takeS s b n).hooks.length ≤ 9000 := (HK.out.sub (take_sub HK.out b n)).len
        refine insertH_any B (takeS s b n).hooks.length i _ _ (one3h fun q hq => own_one (HW1.out.rl hq)) (by omega) _ ?_ hle (by simp; omega) w1.heap.size 1 [.int .u8 b, .int .i64 n, .slice A2 ls.length c2] rfl (heap_alloc_new w1 _) (by intro u hu; simp only [List.mem_cons, List.not_mem_nil, or_false] at hu; rcases hu with rfl | rfl | rfl <;> rfl) ?_
        · have := (HWl.out (.cells #[.int .u8 b, .int .i64 n, .slice A2 ls.length c2] 82)).rh
          unfold rowH Own.lies at this
          rw [hln] at this
          exact this
        · intro e
          have := (World.ownsRow.lt HW1.out.rh _ e).2
          omega
      clear hc1 hle
      have hc1 := (HWl.out (.cells #[.int .u8 b, .int .i64 n, .slice A2 ls.length c2] 82)).cells.2.1
      have hc1' := HW1.out.cells.2.1
      go_wp2_with fail
      refine HIn.out.mono ?_
      rintro e w2 ⟨g, c', rfl, ho, hg, hat⟩
      obtain ⟨-, d1, -, -, d4⟩ := (HWl.out _).struct hg HW1.out.pbH
      have d4' := d4 1
      have HO : Hid (WorkX 90 (w2.setCell ⟨pb, 1, none⟩ (.slice (some ⟨g, 0, none⟩) ((takeS s b n).hooks.length + 1) c')) B pb { s with hooks := putAt s.hooks b n ls } (rowI vl l :: X)) := by
        have hln : hv.length = (takeS s b n).hooks.length := HW1.out.hlen
        refine ⟨hv.take i ++ (⟨b, n, ls⟩, .slice A2 ls.length c2) :: hv.drop i, mv, _, vf, vm, (HWl.out _).setHooks hg ?_ (fun k hk => ?_) ?_ ?_⟩
        · have e1 : (hv.take i ++ ((⟨b, n, ls⟩, .slice A2 ls.length c2) : Hk × Value) :: hv.drop i).length = (takeS s b n).hooks.length + 1 := by
            have := HP.out.1
            simp; omega
          unfold rowH Own.lies
          rw [e1]
          exact ho
        · obtain rfl : g = k := Option.some.inj hk
          rcases hat with h | h
          · exact Or.inl h
          · exact Or.inr (by omega)
        · rw [HP.out.2, ← HW1.out.hooks]; simp
        · rw [List.map_append, List.map_cons]
          have e2 : hv.map rowL = (hv.take i).map rowL ++ (hv.drop i).map rowL := by rw [← List.map_append, List.take_append_drop]
          rw [e2]
          refine List.perm_middle.trans ?_
          refine List.Perm.trans ?_ (List.Perm.append_right _ List.perm_middle.symm)
          exact List.Perm.refl _
      have HB2 := Lib.hid (HB1.out.trans (((Below.refl B w1).alloc hBz (.cells #[.int .u8 b, .int .i64 n, .slice A2 ls.length c2] 82)).trans (Below.of_grown hg (by simp; omega) (fun k hk => (World.ownsRow.lt (HWl.out (.cells #[.int .u8 b, .int .i64 n, .slice A2 ls.length c2] 82)).rh k hk).1))))
      have hpb := HW1.out.base.1
      clear ho hg hat d4 HIn HWl HW1 hc1 hc1'
      go_wp2
      refine bodyPost_end (results_none rfl _ _ _) rfl ?_
      exact stepOut.go HF.out HO.out (HB2.out.setCell (by exact hpb) _)
end Go.Proofs.YtflpikickbellaaGreat
