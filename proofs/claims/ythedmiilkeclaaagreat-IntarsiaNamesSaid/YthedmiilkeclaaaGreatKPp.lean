/- bed.Instr: 0 or 8. The reference's Instr: 0 or 8. -/
import Derived.Test.YthedmiilkeclaaaGreatKPa
import Derived.Deep.CutBlock
import Derived.Deep.Light
namespace Go.Proofs.YthedmiilkeclaaaGreat
open Go.RowKit
set_option maxRecDepth 100000

/-- What is left of an instruction where the named fields are struck. -/
def Ins.plain (i : Ins) : Ins :=
  if i.op = 1 ∨ i.op = 2 then ⟨0, i.right, i.bed, i.at_, i.to_, 0, i.rack⟩
  else if i.op = 3 ∨ i.op = 4 ∨ i.op = 5 then ⟨0, false, 0, 0, i.to_, 0, i.rack⟩
  else if i.op = 6 then ⟨0, false, 0, 0, 0, 0, i.rack⟩
  else if i.op = 7 then ⟨0, i.right, 0, 0, 0, i.car, i.rack⟩
  else if i.op = 8 then ⟨0, i.right, i.bed, i.at_, i.to_, i.car, 0⟩
  else if i.op = 9 then ⟨0, i.right, 0, 0, i.to_, i.car, i.rack⟩
  else ⟨0, i.right, i.bed, i.at_, i.to_, i.car, i.rack⟩
def Ins.okP (i : Ins) : Prop := (1 ≤ i.op ∧ i.op ≤ 6 ∧ 1 ≤ i.car ∧ i.car ≤ 6) ∨ i.op = 7 ∨ i.op = 9 ∨ (i.op = 8 ∧ -8 ≤ i.rack ∧ i.rack ≤ 8)
instance (i : Ins) : Decidable i.okP := by unfold Ins.okP; infer_instance
def Ins.okB (i : Ins) : Bool := decide i.okP
set_option maxHeartbeats 1000000 in
theorem Ins.good_iff (i : Ins) : i.good ↔ i.okP ∧ i.plain = ⟨0, false, 0, 0, 0, 0, 0⟩ ∧ i.bed ≤ 1 ∧ needleP i.at_ ∧ needleP i.to_ := by
  obtain ⟨op, right, bed, at_, to_, car, rack⟩ := i
  unfold Ins.good Ins.okP Ins.plain carP needleP
  dsimp only
  by_cases e1 : op = 1
  · subst e1; cases right <;> simp <;> (constructor <;> intro h <;> (repeat' apply And.intro) <;> omega)
  by_cases e2 : op = 2
  · subst e2; cases right <;> simp <;> (constructor <;> intro h <;> (repeat' apply And.intro) <;> omega)
  by_cases e3 : op = 3
  · subst e3; cases right <;> simp <;> (constructor <;> intro h <;> (repeat' apply And.intro) <;> omega)
  by_cases e4 : op = 4
  · subst e4; cases right <;> simp <;> (constructor <;> intro h <;> (repeat' apply And.intro) <;> omega)
  by_cases e5 : op = 5
  · subst e5; cases right <;> simp <;> (constructor <;> intro h <;> (repeat' apply And.intro) <;> omega)
  by_cases e6 : op = 6
  · subst e6; cases right <;> simp <;> (constructor <;> intro h <;> (repeat' apply And.intro) <;> omega)
  by_cases e7 : op = 7
  · subst e7; cases right <;> simp <;> (constructor <;> intro h <;> (repeat' apply And.intro) <;> omega)
  by_cases e8 : op = 8
  · subst e8; cases right <;> simp <;> (constructor <;> intro h <;> (repeat' apply And.intro) <;> omega)
  by_cases e9 : op = 9
  · subst e9; cases right <;> simp <;> (constructor <;> intro h <;> (repeat' apply And.intro) <;> omega)
  cases right <;> simp [e1, e2, e3, e4, e5, e6, e7, e8, e9] <;> omega
theorem okB_iff (i : Ins) : i.okB = true ↔ ((1 ≤ i.op ∧ i.op ≤ 6 ∧ 1 ≤ i.car ∧ i.car ≤ 6) ∨ i.op = 7 ∨ i.op = 9 ∨ (i.op = 8 ∧ -8 ≤ i.rack ∧ i.rack ≤ 8)) := decide_eq_true_iff
set_option maxHeartbeats 4000000 in
theorem instr_any (i : Ins) (w : World) : Calls Tryz.prog 31 #[i.val] w fun e w' => e = .returned (.int .i64 i.err) ∧ Below w.heap.size w w' := by
  have hneq := run_neq_ins
  go_enter Tryz.func31, Tryz.ntmps31
  go_upto_region 1 with (fail)
  go_cut [3] (fun s3 wx => s3 = .bool (decide (carP i.car)) ∧ wx = w.alloc (.cells #[.int .u8 i.op, .bool i.right, .int .u8 i.bed, .int .i64 i.at_, .int .i64 i.to_, .int .i64 i.car, .int .i64 i.rack] 31))
  case first =>
    go_wp2
    all_goals go_meet
    all_goals
      case rel =>
        refine ⟨?_, rfl⟩
        congr 1
        rw [Bool.eq_iff_iff, decide_eq_true_iff (p := carP i.car)]
        unfold carP
        first | omega | (simp; done) | (simp; omega)
  case rest =>
    obtain ⟨rfl, rfl⟩ := hcut
    generalize hcb : decide (carP i.car) = cb
    go_upto_block 0 with (fail)
    go_cut [5] (fun s5 wx => s5 = .bool i.okB ∧ wx = (w.alloc (.cells #[.int .u8 i.op, .bool i.right, .int .u8 i.bed, .int .i64 i.at_, .int .i64 i.to_, .int .i64 i.car, .int .i64 i.rack] 31)).alloc
        (.cells #[.int .u8 i.plain.op, .bool i.plain.right, .int .u8 i.plain.bed, .int .i64 i.plain.at_, .int .i64 i.plain.to_, .int .i64 i.plain.car, .int .i64 i.plain.rack] 31))
    case first =>
      have HC := Lib.hid hcb
      clear hcb hneq
      go_wp2
      all_goals go_meet
      all_goals
        go_light
        simp only [beq_iff_eq, beq_eq_false_iff_ne, ne_eq] at *
        refine ⟨?_, ?_⟩
        · refine congrArg Value.bool ?_
          rw [Bool.eq_iff_iff, okB_iff]
          have hc1 : cb = true ↔ (1 ≤ i.car ∧ i.car ≤ 6) := by rw [← HC.out, decide_eq_true_iff]; exact Iff.rfl
          by_cases hr : -8 ≤ i.rack ∧ i.rack ≤ 8
          · have hw : wrap64 (-i.rack) = -i.rack := IntWalk.wrap64_in _ (by omega)
            first | (rw [hc1]; omega) | (simp; omega)
          · first | (rw [hc1]; omega) | (simp; omega)
        · unfold Ins.plain
          simp [*]
    case rest =>
      obtain ⟨rfl, rfl⟩ := hcut
      have HG := Lib.hid i.good_iff
      clear hcb
      generalize hok0 : i.okB = ok at *
      generalize i.plain = pl at HG ⊢
      cases ok with
      | false =>
        have hok := Lib.hid (of_decide_eq_false hok0)
        clear hok0
        have HE : Hid (i.err = 8) := by unfold Hid Ins.err; rw [if_neg]; intro h; exact hok.out (HG.out.1 h).1
        clear HG
        go_wp2
        go_ret
        exact ⟨ret_int HE.out.symm, ((Below.refl _ _).alloc (Nat.le_refl _) _).alloc (by simp) _⟩
      | true =>
        have hok := Lib.hid (of_decide_eq_true hok0)
        clear hok0
        by_cases hz : pl = ⟨0, false, 0, 0, 0, 0, 0⟩ ∧ i.bed ≤ 1 ∧ needleP i.at_ ∧ needleP i.to_
        · have HE : Hid (i.err = 0) := by unfold Hid Ins.err; rw [if_pos (HG.out.2 ⟨hok.out, hz.1, hz.2.1, hz.2.2.1, hz.2.2.2⟩)]
          obtain ⟨rfl, h1, h2, h3⟩ := hz
          have hn : insNe' 0 false 0 0 0 0 0 0 false 0 0 0 0 0 = false := by decide
          have hd2 : decide (needleP i.at_) = true := decide_eq_true h2
          have hd3 : decide (needleP i.to_) = true := decide_eq_true h3
          clear HG
          go_wp2_with (go_at_call 49; refine (needle_any _ _).mono ?_; rintro e w' ⟨rfl, rfl⟩)
          go_ret
          exact ⟨ret_int HE.out.symm, ((Below.refl _ _).alloc (Nat.le_refl _) _).alloc (by simp) _⟩
        · have HE : Hid (i.err = 8) := by unfold Hid Ins.err; rw [if_neg]; intro h; exact hz ⟨(HG.out.1 h).2.1, (HG.out.1 h).2.2⟩
          have hcases : (insNe' pl.op pl.right pl.bed pl.at_ pl.to_ pl.car pl.rack 0 false 0 0 0 0 0 = true) ∨ (insNe' pl.op pl.right pl.bed pl.at_ pl.to_ pl.car pl.rack 0 false 0 0 0 0 0 = false ∧ (1 < i.bed ∨ (i.bed ≤ 1 ∧ (decide (needleP i.at_) = false ∨ (decide (needleP i.at_) = true ∧ decide (needleP i.to_) = false))))) := by
            cases hq : insNe' pl.op pl.right pl.bed pl.at_ pl.to_ pl.car pl.rack 0 false 0 0 0 0 0 with
            | true => exact .inl rfl
            | false =>
              refine .inr ⟨rfl, ?_⟩
              have hp : pl = ⟨0, false, 0, 0, 0, 0, 0⟩ := by
                unfold insNe' insNe at hq
                exact Decidable.of_not_not (of_decide_eq_false hq)
              by_cases h1 : i.bed ≤ 1
              · refine .inr ⟨h1, ?_⟩
                by_cases h2 : needleP i.at_
                · refine .inr ⟨decide_eq_true h2, decide_eq_false fun h3 => hz ⟨hp, h1, h2, h3⟩⟩
                · exact .inl (decide_eq_false h2)
              · exact .inl (by omega)
          clear HG hz
          rcases hcases with h1 | ⟨h1, h2 | ⟨h2, h3 | ⟨h3, h4⟩⟩⟩
          all_goals
            go_wp2_with (go_at_call 49; refine (needle_any _ _).mono ?_; rintro e w' ⟨rfl, rfl⟩)
            go_ret
            exact ⟨ret_int HE.out.symm, ((Below.refl _ _).alloc (Nat.le_refl _) _).alloc (by simp) _⟩
end Go.Proofs.YthedmiilkeclaaaGreat
namespace Go.Proofs.YthedmiilkeclaaaGreat
open Go.RowKit
set_option maxRecDepth 100000

/-- The instruction that has the named fields alone. -/
def Ins.named (i : Ins) : Ins :=
  if i.op = 1 ∨ i.op = 2 then ⟨i.op, false, 0, 0, 0, i.car, 0⟩
  else if i.op = 3 ∨ i.op = 4 ∨ i.op = 5 then ⟨i.op, i.right, i.bed, i.at_, 0, i.car, 0⟩
  else if i.op = 6 then ⟨i.op, i.right, i.bed, i.at_, i.to_, i.car, 0⟩
  else if i.op = 7 then ⟨i.op, false, i.bed, i.at_, i.to_, 0, 0⟩
  else if i.op = 8 then ⟨i.op, false, 0, 0, 0, 0, i.rack⟩
  else ⟨i.op, false, i.bed, i.at_, 0, 0, 0⟩
set_option maxHeartbeats 1000000 in
theorem Ins.good_iff2 (i : Ins) : i.good ↔ (1 ≤ i.op ∧ i.op ≤ 9) ∧ i.okP ∧ i.named = i ∧ i.bed ≤ 1 ∧ needleP i.at_ ∧ needleP i.to_ := by
  obtain ⟨op, right, bed, at_, to_, car, rack⟩ := i
  unfold Ins.good Ins.okP Ins.named carP needleP
  dsimp only
  by_cases e1 : op = 1
  · subst e1; cases right <;> simp <;> (constructor <;> intro h <;> (repeat' apply And.intro) <;> omega)
  by_cases e2 : op = 2
  · subst e2; cases right <;> simp <;> (constructor <;> intro h <;> (repeat' apply And.intro) <;> omega)
  by_cases e3 : op = 3
  · subst e3; cases right <;> simp <;> (constructor <;> intro h <;> (repeat' apply And.intro) <;> omega)
  by_cases e4 : op = 4
  · subst e4; cases right <;> simp <;> (constructor <;> intro h <;> (repeat' apply And.intro) <;> omega)
  by_cases e5 : op = 5
  · subst e5; cases right <;> simp <;> (constructor <;> intro h <;> (repeat' apply And.intro) <;> omega)
  by_cases e6 : op = 6
  · subst e6; cases right <;> simp <;> (constructor <;> intro h <;> (repeat' apply And.intro) <;> omega)
  by_cases e7 : op = 7
  · subst e7; cases right <;> simp <;> (constructor <;> intro h <;> (repeat' apply And.intro) <;> omega)
  by_cases e8 : op = 8
  · subst e8; cases right <;> simp <;> (constructor <;> intro h <;> (repeat' apply And.intro) <;> omega)
  by_cases e9 : op = 9
  · subst e9; cases right <;> simp <;> (constructor <;> intro h <;> (repeat' apply And.intro) <;> omega)
  simp only [e1, e2, e3, e4, e5, e6, e7, e8, e9, false_and, or_false, false_iff]
  omega

set_option maxHeartbeats 8000000 in
theorem rinstr_any (i : Ins) (w : World) : Calls Tryz.prog 95 #[i.val] w fun e w' => e = .returned (.int .i64 i.err) ∧ Below w.heap.size w w' := by
  have hneq := run_neq_ins
  have hHG := Lib.hid i.good_iff2
  by_cases hop : 1 ≤ i.op ∧ i.op ≤ 9
  case neg =>
    have HE : Hid (i.err = 8) := by unfold Hid Ins.err; rw [if_neg]; intro h; exact hop (hHG.out.1 h).1
    have f1 : (i.op == 1) = false := beq_eq_false_iff_ne.2 (by omega)
    have f2 : (i.op == 2) = false := beq_eq_false_iff_ne.2 (by omega)
    have f3 : (i.op == 3) = false := beq_eq_false_iff_ne.2 (by omega)
    have f4 : (i.op == 4) = false := beq_eq_false_iff_ne.2 (by omega)
    have f5 : (i.op == 5) = false := beq_eq_false_iff_ne.2 (by omega)
    have f6 : (i.op == 6) = false := beq_eq_false_iff_ne.2 (by omega)
    have f7 : (i.op == 7) = false := beq_eq_false_iff_ne.2 (by omega)
    have f8 : (i.op == 8) = false := beq_eq_false_iff_ne.2 (by omega)
    have f9 : (i.op == 9) = false := beq_eq_false_iff_ne.2 (by omega)
    clear hop hHG hneq
    go_enter Tryz.func95, Tryz.ntmps95
    go_wp2
    go_ret
    exact ⟨ret_int HE.out.symm, ((Below.refl _ _).alloc (Nat.le_refl _) _).alloc (by simp) _⟩
  case pos =>
  have HOP := Lib.hid hop
  clear hop
  go_enter Tryz.func95, Tryz.ntmps95
  go_upto_block 0 with (fail)
  go_cut [4] (fun s4 wx => s4 = .bool i.okB ∧ ∃ n, wx = ((w.alloc (.cells #[.int .u8 i.op, .bool i.right, .int .u8 i.bed, .int .i64 i.at_, .int .i64 i.to_, .int .i64 i.car, .int .i64 i.rack] 31)).alloc
        (.cells #[.int .u8 i.named.op, .bool i.named.right, .int .u8 i.named.bed, .int .i64 i.named.at_, .int .i64 i.named.to_, .int .i64 i.named.car, .int .i64 i.named.rack] 31)).drewN n)
  case first =>
    clear hneq
    go_wp2_with (go_at_call 112; refine (rfeed_any _ _).mono ?_; rintro e w' ⟨rfl, rfl⟩)
    all_goals (try (go_region; all_goals (go_wp2_with (go_at_call 112; refine (rfeed_any _ _).mono ?_; rintro e w' ⟨rfl, rfl⟩))))
    all_goals first
      | (go_light; exfalso; have hop := HOP.out; simp only [beq_iff_eq, beq_eq_false_iff_ne, ne_eq] at *; omega)
      | (go_meet
         case rel =>
           go_light
           simp only [beq_iff_eq, beq_eq_false_iff_ne, ne_eq] at *
           refine ⟨?_, ?_⟩
           · refine congrArg Value.bool ?_
             rw [Bool.eq_iff_iff, okB_iff]
             have hc1 : decide (carP i.car) = true ↔ (1 ≤ i.car ∧ i.car ≤ 6) := by rw [decide_eq_true_iff]; exact Iff.rfl
             first | (rw [hc1]; omega) | (simp; omega) | omega
           · unfold Ins.named
             first | (refine ⟨1, ?_⟩; simp [*]; done) | (refine ⟨1, ?_⟩; simp [*]; rfl) | (refine ⟨0, ?_⟩; simp [*]; done) | (refine ⟨0, ?_⟩; simp [*]; rfl))
  case rest =>
    obtain ⟨rfl, n, rfl⟩ := hcut
    have HOP2 := HOP
    generalize hok0 : i.okB = ok at *
    generalize i.named = pl at hHG ⊢
    cases ok with
    | false =>
      have hok := Lib.hid (of_decide_eq_false hok0)
      clear hok0
      have HE : Hid (i.err = 8) := by unfold Hid Ins.err; rw [if_neg]; intro h; exact hok.out (hHG.out.1 h).2.1
      clear hHG
      go_wp2
      go_ret
      exact ⟨ret_int HE.out.symm, below_drewN (((Below.refl _ _).alloc (Nat.le_refl _) _).alloc (by simp) _) _⟩
    | true =>
      have hok := Lib.hid (of_decide_eq_true hok0)
      clear hok0
      by_cases hz : pl = i ∧ i.bed ≤ 1 ∧ needleP i.at_ ∧ needleP i.to_
      · have HE : Hid (i.err = 0) := by unfold Hid Ins.err; rw [if_pos (hHG.out.2 ⟨HOP2.out, hok.out, hz.1, hz.2.1, hz.2.2.1, hz.2.2.2⟩)]
        obtain ⟨rfl, h1, h2, h3⟩ := hz
        have hn : insNe' pl.op pl.right pl.bed pl.at_ pl.to_ pl.car pl.rack pl.op pl.right pl.bed pl.at_ pl.to_ pl.car pl.rack = false := by unfold insNe' insNe; simp
        have hd2 : decide (needleP pl.at_) = true := decide_eq_true h2
        have hd3 : decide (needleP pl.to_) = true := decide_eq_true h3
        clear hHG
        go_wp2_with (go_at_call 111; refine (rat_any _ _).mono ?_; rintro e w' ⟨rfl, rfl⟩)
        go_ret
        exact ⟨ret_int HE.out.symm, below_drewN (((Below.refl _ _).alloc (Nat.le_refl _) _).alloc (by simp) _) _⟩
      · have HE : Hid (i.err = 8) := by unfold Hid Ins.err; rw [if_neg]; intro h; exact hz ⟨(hHG.out.1 h).2.2.1, (hHG.out.1 h).2.2.2⟩
        have hcases : (insNe' pl.op pl.right pl.bed pl.at_ pl.to_ pl.car pl.rack i.op i.right i.bed i.at_ i.to_ i.car i.rack = true) ∨ (insNe' pl.op pl.right pl.bed pl.at_ pl.to_ pl.car pl.rack i.op i.right i.bed i.at_ i.to_ i.car i.rack = false ∧ (1 < i.bed ∨ (i.bed ≤ 1 ∧ (decide (needleP i.at_) = false ∨ (decide (needleP i.at_) = true ∧ decide (needleP i.to_) = false))))) := by
          cases hq : insNe' pl.op pl.right pl.bed pl.at_ pl.to_ pl.car pl.rack i.op i.right i.bed i.at_ i.to_ i.car i.rack with
          | true => exact .inl rfl
          | false =>
            refine .inr ⟨rfl, ?_⟩
            have hp : pl = i := by
              unfold insNe' insNe at hq
              exact Decidable.of_not_not (of_decide_eq_false hq)
            by_cases h1 : i.bed ≤ 1
            · refine .inr ⟨h1, ?_⟩
              by_cases h2 : needleP i.at_
              · refine .inr ⟨decide_eq_true h2, decide_eq_false fun h3 => hz ⟨hp, h1, h2, h3⟩⟩
              · exact .inl (decide_eq_false h2)
            · exact .inl (by omega)
        clear hHG hz
        rcases hcases with h1 | ⟨h1, h2 | ⟨h2, h3 | ⟨h3, h4⟩⟩⟩
        all_goals
          go_wp2_with (go_at_call 111; refine (rat_any _ _).mono ?_; rintro e w' ⟨rfl, rfl⟩)
          go_ret
          exact ⟨ret_int HE.out.symm, below_drewN (((Below.refl _ _).alloc (Nat.le_refl _) _).alloc (by simp) _) _⟩
end Go.Proofs.YthedmiilkeclaaaGreat
