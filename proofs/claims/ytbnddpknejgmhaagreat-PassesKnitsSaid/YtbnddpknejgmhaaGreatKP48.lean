/- Layer 31: look, the program's and the reference's; Long. Layer 31: grow in one word; longest. Layer 31: Is; sub-slices. Layer 31: May and Fewest. Layer 31: Fewest. -/
import Derived.Test.YtbnddpknejgmhaaGreatKP47
import Derived.Test.YtbnddpknejgmhaaGreatKP1
import Derived.Deep.AppendLies
import Derived.Deep.RegionLaw
namespace Go.Proofs.YtbnddpknejgmhaaGreat
open Go.RowKit
set_option maxRecDepth 100000

set_option maxHeartbeats 1000000 in
theorem idxI_any (g : Nat) (lb : Array Value) (eg : ∀ args w, (callFunc g args).run Tryz.prog w = .ok (.enter g args) w) (pr : Ins → Bool) (A : Option Addr) (c : Nat) (zs : List Ins) (w : World)
    (hs : SlX w w.heap.size A zs) (hn : zs.length ≤ 4611686018427387904) (hp : ∀ x, x ∈ zs → ∀ w', Below w.heap.size w w' → Calls Tryz.prog g (#[x.val] ++ lb) w' fun e w2 => e = .returned (.bool (pr x)) ∧ Below w'.heap.size w' w2) :
    Calls Tryz.prog 98 #[.slice A zs.length c, .func (.func g) #[] lb] w fun e w' => e = .returned (.int .i64 (idxE pr zs)) ∧ Below w.heap.size w w' := by
  go_enter Tryz.func98, Tryz.ntmps98
  go_wp2
  go_loopw [8] (fun i wr => ∃ k : Nat, k ≤ zs.length ∧ i = .int .i64 k ∧ Hid (∀ j y, j < k → zs[j]? = some y → pr y = false) ∧ Below w.heap.size w wr) (fun i _ => zs.length - (intOf i).toNat)
  case atStart => exact ⟨0, Nat.zero_le _, rfl, fun j _ hj => absurd hj (Nat.not_lt_zero j), Below.refl _ _⟩
  case round =>
    obtain ⟨k, hk, rfl, H, hbw⟩ := hrel
    by_cases hlt : k < zs.length
    · obtain ⟨b, off, z, rfl, hB, hr, hc⟩ := hs.at_ hlt
      obtain ⟨c0, c1, c2, c3, c4, c5, c6⟩ := hc.below hbw hB
      have hcall := hp z (List.mem_of_getElem? hr) wr hbw
      have HR : Hid (zs[k]? = some z) := hr
      clear hr hs hp hc
      cases hq : pr z with
      | true =>
        rw [hq] at hcall
        have HQ : Hid (pr z = true) := hq
        clear hq
        go_wp2_with (go_at_fn g; refine hcall.mono ?_; rintro e w' ⟨rfl, hb1⟩)
        go_ret
        exact ⟨ret_int (idxE_hit HR.out HQ.out H.out).symm, hbw.trans (hb1.mono hbw.size)⟩
      | false =>
        rw [hq] at hcall
        have HQ : Hid (pr z = false) := hq
        clear hq
        go_wp2_with (go_at_fn g; refine hcall.mono ?_; rintro e w' ⟨rfl, hb1⟩)
        go_roundw
        case rel =>
          refine ⟨k + 1, by omega, by go_num, fun j y hj hy => ?_, hbw.trans (hb1.mono hbw.size)⟩
          by_cases e : j = k
          · subst e; rw [HR.out] at hy; injection hy with hy; subst hy; exact HQ.out
          · exact H.out j y (by omega) hy
        case measure => simp [intOf]; omega
    · have HE : Hid (idxE pr zs = -1) := idxE_none (fun j y hj => H.out j y (by omega))
      clear H hs hp
      go_wp2
      go_ret
      exact ⟨ret_int HE.out.symm, hbw⟩
theorem contI_any (g : Nat) (lb : Array Value) (eg : ∀ args w, (callFunc g args).run Tryz.prog w = .ok (.enter g args) w) (pr : Ins → Bool) (A : Option Addr) (c : Nat) (zs : List Ins) (w : World)
    (hs : SlX w w.heap.size A zs) (hn : zs.length ≤ 4611686018427387904) (hp : ∀ x, x ∈ zs → ∀ w', Below w.heap.size w w' → Calls Tryz.prog g (#[x.val] ++ lb) w' fun e w2 => e = .returned (.bool (pr x)) ∧ Below w'.heap.size w' w2) :
    Calls Tryz.prog 70 #[.slice A zs.length c, .func (.func g) #[] lb] w fun e w' => e = .returned (.bool (zs.any pr)) ∧ Below w.heap.size w w' := by
  have HA : Hid (decide (0 ≤ idxE pr zs) = zs.any pr) := idxE_any pr zs
  have hcall := Lib.hid (idxI_any g lb eg pr A c zs w hs hn hp)
  clear hs hp eg
  go_enter Tryz.func70, Tryz.ntmps70
  go_wp2_with (go_at_call 98; refine hcall.out.mono ?_; rintro e w' ⟨rfl, hb1⟩)
  go_ret
  exact ⟨ret_bool (by first | exact HA.out | (rw [← HA.out]; simp)), hb1⟩

def lookB (l : List Ins) : Bool := l.any fun i => decide (i.err ≠ 0)
def lookE (rack : Int) (l : List Ins) : Int := if rack < -8 ∨ 8 < rack then 2 else if 2000 < l.length then 4 else if lookB l then 8 else 0

theorem look1_any (i : Ins) (w : World) : Calls Tryz.prog 71 #[i.val] w fun e w' => e = .returned (.bool (decide (i.err ≠ 0))) ∧ Below w.heap.size w w' := by
  go_enter Tryz.func71, Tryz.ntmps71
  go_wp2_with (go_at_call 31; refine (instr_any i _).mono ?_; rintro e w' ⟨rfl, hb1⟩)
  go_ret
  refine ⟨ret_bool ?_, ((Below.refl _ _).alloc (Nat.le_refl _) _).trans (hb1.mono (by simp))⟩
  by_cases h : i.err = 0
  · rw [h]; rfl
  · simp [h]

set_option maxHeartbeats 1000000 in
theorem look_any (rack : Int) (A : Option Addr) (c : Nat) (l : List Ins) (w : World) (hs : SlX w w.heap.size A l) (hn : l.length ≤ 4611686018427387904) :
    Calls Tryz.prog 41 #[.int .i64 rack, .slice A l.length c] w fun e w' => e = .returned (.int .i64 (lookE rack l)) ∧ Below w.heap.size w w' := by
  have hcall := Lib.hid (contI_any 71 #[] (enters_of Tryz.func71 (by kernel_rfl) rfl) (fun i => decide (i.err ≠ 0)) A c l w hs hn (fun x _ w' _ => look1_any x w'))
  have HC : Hid (∀ b, l.any (fun i => decide (i.err ≠ 0)) = b → lookB l = b) := fun b h => h
  clear hs
  by_cases h1 : rack < -8 ∨ 8 < rack
  · have HE : Hid (lookE rack l = 2) := by unfold Hid lookE; rw [if_pos h1]
    clear HC
    rcases h1 with h1 | h1
    all_goals
      go_enter Tryz.func41, Tryz.ntmps41
      go_wp2
      go_ret
      exact ⟨ret_int HE.out.symm, Below.refl _ _⟩
  · have h2 : -8 ≤ rack ∧ rack ≤ 8 := by omega
    by_cases h3 : 2000 < l.length
    · have HE : Hid (lookE rack l = 4) := by unfold Hid lookE; rw [if_neg h1, if_pos h3]
      clear HC h1
      go_enter Tryz.func41, Tryz.ntmps41
      go_wp2
      go_ret
      exact ⟨ret_int HE.out.symm, Below.refl _ _⟩
    · have HE : Hid (∀ b, lookB l = b → lookE rack l = if b then 8 else 0) := by
        intro b hb
        unfold lookE; rw [if_neg h1, if_neg h3, hb]
      clear h1
      generalize l.any (fun i => decide (i.err ≠ 0)) = b at hcall HC
      have HL := HE.out b (HC.out b rfl)
      cases b with
      | false =>
        have HE2 := Lib.hid HL
        clear HL HC HE
        go_enter Tryz.func41, Tryz.ntmps41
        go_wp2_with (go_at_call 70; refine hcall.out.mono ?_; rintro e w' ⟨rfl, hb1⟩)
        go_ret
        exact ⟨ret_int HE2.out.symm, hb1⟩
      | true =>
        have HE2 := Lib.hid HL
        clear HL HC HE
        go_enter Tryz.func41, Tryz.ntmps41
        go_wp2_with (go_at_call 70; refine hcall.out.mono ?_; rintro e w' ⟨rfl, hb1⟩)
        go_ret
        exact ⟨ret_int HE2.out.symm, hb1⟩

theorem lookB_hit {l : List Ins} {k : Nat} {i : Ins} (hz : l[k]? = some i) (h : i.err ≠ 0) : lookB l = true := by
  unfold lookB; rw [List.any_eq_true]; exact ⟨i, List.mem_of_getElem? hz, by simpa using h⟩
theorem lookB_none {l : List Ins} (h : ∀ j y, j < l.length → l[j]? = some y → y.err = 0) : lookB l = false := by
  unfold lookB; rw [List.any_eq_false]
  intro x hx
  obtain ⟨j, hj⟩ := List.mem_iff_getElem?.1 hx
  simp [h j x (List.getElem?_eq_some_iff.1 hj).1 hj]

def longB (n : Nat) : Bool := (decide (300 < n) && decide (n ≤ 2000)) || decide (2100 < n)
end Go.Proofs.YtbnddpknejgmhaaGreat
namespace Go.Proofs.YtbnddpknejgmhaaGreat
open Go.RowKit
set_option maxRecDepth 100000

theorem hooks_nil {i : Ins} (h : yarnB i = true) : hooks i = [] := by
  unfold yarnB at h
  have := of_decide_eq_true h
  unfold hooks
  rw [if_neg (by omega), if_neg (by omega)]
theorem growP_any (i a l : Ins) (hi : i.fit) (hl : l.fit) (rack : Int) (hr : -8 ≤ rack ∧ rack ≤ 8) (pb mb n B : Nat) (U : List Hook) (w : World) (hP : PassAt w pb mb n a l rack U) (hB : B ≤ pb) (hB2 : B ≤ mb) (hn : n ≤ 100000)
    (q : Bool) (hq : growB rack a l U i = q) :
    Calls Tryz.prog 73 #[.pointer (some ⟨pb, 0, none⟩), i.val] w fun e w' =>
      e = .returned (.bool q) ∧ Below B w w' ∧ (q = true → ∃ n', n' ≤ n + 2 ∧ PassAt w' pb mb n' a i rack (growU a U i)) := by
  have hpl := cell_lt hP.rack
  have hBW : B ≤ w.heap.size := by omega
  cases hy : yarnB a && yarnB i with
  | true =>
    have h1 := (Bool.and_eq_true_iff.1 hy).1
    have h2 := (Bool.and_eq_true_iff.1 hy).2
    refine (grow_yarn i a l hi hl rack hr pb mb n U w hP h1 h2).mono ?_
    rintro e w' ⟨b, rfl, hb, hg, hp⟩
    have hbq : b = q := by rw [hb, ← hq]; unfold growB condY; rw [if_pos hy]
    subst hbq
    refine ⟨rfl, (Below.refl B w).grown hg hBW (fun k e => by cases e; exact hB), fun h => ⟨n, by omega, ?_⟩⟩
    unfold growU
    rw [if_pos hy]
    exact hp h
  | false =>
    have hcq : condO a i U = q := by
      rw [← hq]; unfold growB condO; rw [hy, if_neg (by simp)]
      by_cases h : a.op = i.op ∧ (a.op = 7 ∨ a.op = 9)
      · rw [if_pos h, decide_eq_true h, Bool.true_and]
      · rw [if_neg h, decide_eq_false h, Bool.false_and]
    have hpost : ∀ B' e w', B ≤ B' → GrowPostO rack a i pb mb n U B' w e w' → e = .returned (.bool q) ∧ Below B w w' ∧ (q = true → ∃ n', n' ≤ n + 2 ∧ PassAt w' pb mb n' a i rack (growU a U i)) := by
      rintro B' e w' hBB ⟨b, rfl, hb, hbl, hp⟩
      rw [hcq] at hb
      subst hb
      refine ⟨rfl, hbl.mono hBB, fun h => ⟨n + (hooks i).length, by have := hooks_len i; omega, ?_⟩⟩
      unfold growU
      rw [hy, if_neg (by simp)]
      exact hp h
    by_cases h79 : a.op = i.op ∧ (a.op = 7 ∨ a.op = 9)
    · exact (grow_same i a l hi rack pb mb n B U w hP hB hB2 hn h79.1 (by omega)).mono fun e w' h => hpost B e w' (Nat.le_refl _) h
    · exact (grow_none i a l rack pb mb n U w hP hy h79).mono fun e w' h => hpost _ e w' hBW h

/-- How many more a pass takes. -/
def growRun (rack : Int) (a : Ins) : Ins → List Hook → List Ins → Nat
  | _, _, [] => 0
  | l, U, i :: t => if growB rack a l U i then growRun rack a i (growU a U i) t + 1 else 0
def lonF (rack : Int) : List Ins → Nat
  | [] => 0
  | i :: t => growRun rack i i (hooks i).reverse t + 1
theorem drop_at {α : Type} {zs : List α} {k : Nat} {z : α} (h : zs[k]? = some z) : zs.drop k = z :: zs.drop (k + 1) := by
  obtain ⟨hk, e⟩ := List.getElem?_eq_some_iff.1 h
  rw [List.drop_eq_getElem_cons hk, e]

set_option maxHeartbeats 1000000 in
theorem longest_any (rack : Int) (hr : -8 ≤ rack ∧ rack ≤ 8) (A : Option Addr) (c : Nat) (zs : List Ins) (hf : ∀ i ∈ zs, i.fit) (hn : zs.length ≤ 2000) (w : World) (hs : SlX w w.heap.size A zs) :
    Calls Tryz.prog 42 #[.int .i64 rack, .slice A zs.length c] w fun e w' => e = .returned (.int .i64 (lonF rack zs)) ∧ Below w.heap.size w w' := by
  cases zs with
  | nil =>
    clear hf hs hn hr
    go_enter Tryz.func42, Tryz.ntmps42
    go_wp2
    go_ret
    exact ⟨rfl, Below.refl _ _⟩
  | cons a t =>
    obtain ⟨b, off, i0, rfl, hB, hr0, hc⟩ := hs.at_ (k := 0) (by simp)
    obtain rfl : a = i0 := by simpa using hr0
    obtain ⟨c0, c1, c2, c3, c4, c5, c6⟩ := hc
    simp only [Nat.zero_mul, Nat.add_zero] at c0 c1 c2 c3 c4 c5 c6
    have HB := Lib.hid (begin_any rack a (hf a List.mem_cons_self) w)
    have hpos : 0 < (a :: t).length := by simp
    have HL : Hid (lonF rack (a :: t) = 1 + growRun rack a a (hooks a).reverse ((a :: t).drop 1)) := by unfold Hid; simp only [lonF, List.drop_one, List.tail_cons]; omega
    have hfa := Lib.hid (hf a List.mem_cons_self)
    generalize a :: t = zs at hs hf hn hpos HL ⊢
    clear hr0
    go_enter Tryz.func42, Tryz.ntmps42
    go_wp2_with (go_at_call 72; refine HB.out.mono ?_; rintro e w1 ⟨pb, mb, rfl, hpb, hmb, hne, hP, hb1⟩)
    clear c0 c1 c2 c3 c4 c5 c6
    go_loopw [6] (fun s6 wr => ∃ k : Nat, 1 ≤ k ∧ k ≤ zs.length ∧ s6 = .int .i64 k ∧ (∃ l U n', PassAt wr pb mb n' a l rack U ∧ n' ≤ 2 * k ∧ l.fit ∧ Hid (lonF rack zs = k + growRun rack a l U (zs.drop k))) ∧ Below w.heap.size w wr) (fun s6 _ => zs.length - (intOf s6).toNat)
    case atStart => exact ⟨1, Nat.le_refl _, hpos, rfl, ⟨a, _, _, hP, by have := hooks_len a; omega, hfa.out, HL.out⟩, hb1⟩
    case round =>
      obtain ⟨k, hk1, hk, rfl, ⟨l, U, n', hPk, hn', hlf, HK⟩, hbw⟩ := hrel
      by_cases hlt : k < zs.length
      · obtain ⟨b', off', z, he, hB', hz, hcz⟩ := hs.at_ hlt
        cases he
        obtain ⟨d0, d1, d2, d3, d4, d5, d6⟩ := hcz.below hbw hB
        have hfz := hf z (List.mem_of_getElem? hz)
        have HZ := Lib.hid hz
        cases hq : growB rack a l U z with
        | true =>
          have hcall := Lib.hid (growP_any z a l hfz hlf rack hr pb mb n' w.heap.size U wr hPk hpb hmb (by omega) true hq)
          have HS : Hid (growRun rack a l U (zs.drop k) = growRun rack a z (growU a U z) (zs.drop (k + 1)) + 1) := by unfold Hid; rw [drop_at hz]; simp only [growRun]; rw [if_pos hq]
          have hfz2 := Lib.hid hfz
          clear hz hcz hs hf hfz hlf hPk hP hq
          go_wp2_with (go_at_call 73; refine hcall.out.mono ?_; rintro e w2 ⟨rfl, hb2, hp2⟩)
          obtain ⟨n2, hn2, hP2⟩ := hp2 (by simp)
          clear hp2
          go_roundw
          case rel => exact ⟨k + 1, by omega, by omega, by go_num, ⟨z, _, n2, hP2, by omega, hfz2.out, by unfold Hid; rw [HK.out, HS.out]; omega⟩, hbw.trans hb2⟩
          case measure => simp [intOf]; omega
        | false =>
          have hcall := Lib.hid (growP_any z a l hfz hlf rack hr pb mb n' w.heap.size U wr hPk hpb hmb (by omega) false hq)
          have HS : Hid (lonF rack zs = k) := by unfold Hid; rw [HK.out, drop_at hz]; simp only [growRun]; rw [hq]; rfl
          clear hz hcz hs hf hfz hlf hPk hP hq HK HL
          go_wp2_with (go_at_call 73; refine hcall.out.mono ?_; rintro e w2 ⟨rfl, hb2, _⟩)
          go_ret
          exact ⟨ret_int (by rw [HS.out]), hbw.trans hb2⟩
      · have HS : Hid (lonF rack zs = k) := by unfold Hid; rw [HK.out, List.drop_of_length_le (by omega)]; simp [growRun]
        obtain rfl : k = zs.length := by omega
        clear hs hf hlf hPk hP HK HL hlt
        go_wp2
        go_ret
        exact ⟨ret_int (by rw [HS.out]), hbw⟩
end Go.Proofs.YtbnddpknejgmhaaGreat
namespace Go.Proofs.YtbnddpknejgmhaaGreat
open Go.RowKit
set_option maxRecDepth 100000

theorem fit_of_good {i : Ins} (hw : i.wf) (h : i.good) : i.fit := by
  obtain ⟨w1, w2, w3, w4⟩ := hw
  unfold Ins.good carP needleP at h
  unfold Ins.fit Ins.fit.carP' needleP
  rcases h with ⟨h0, h1, h2, h3, h4, h5, h6⟩ | ⟨h0, h1, h2, h3, h4, h5⟩ | ⟨h0, h1, h2, h3, h4, h5⟩ | ⟨h0, h1, h2, h3, h4, h5, h6⟩ | ⟨h0, h1, h2, h3, h4, h5, h6⟩ | ⟨h0, h1, h2, h3, h4, h5, h6⟩
  all_goals (repeat' apply And.intro)
  all_goals omega
theorem look_zero {rack : Int} {l : List Ins} (h : lookE rack l = 0) : (-8 ≤ rack ∧ rack ≤ 8) ∧ l.length ≤ 2000 ∧ ∀ i ∈ l, i.good := by
  unfold lookE at h
  by_cases h1 : rack < -8 ∨ 8 < rack
  · rw [if_pos h1] at h; cases h
  rw [if_neg h1] at h
  by_cases h2 : 2000 < l.length
  · rw [if_pos h2] at h; cases h
  rw [if_neg h2] at h
  cases h3 : lookB l with
  | true => rw [h3] at h; cases h
  | false =>
    refine ⟨by omega, by omega, fun i hi => ?_⟩
    unfold lookB at h3
    rw [List.any_eq_false] at h3
    have := h3 i hi
    by_cases hg : i.good
    · exact hg
    · exact absurd (by unfold Ins.err; rw [if_neg hg]; decide) this
theorem look_fit {rack : Int} {l : List Ins} (hw : ∀ i ∈ l, i.wf) (h : lookE rack l = 0) : ∀ i ∈ l, i.fit := fun i hi => fit_of_good (hw i hi) ((look_zero h).2.2 i hi)

def isB (rack : Int) (l : List Ins) : Bool := decide (lookE rack l = 0) && (decide (0 < l.length) && decide (lonF rack l = l.length))

/-! ### sub-slices -/
theorem x_size : (Tryz.prog.info? 64).map (·.size) = some 7 := by kernel_rfl
theorem addr_add0 (a : Addr) : a.add 0 = a := by simp [Addr.add]
theorem map_add0 (A : Option Addr) : A.map (fun a => a.add 0) = A := by cases A <;> simp [addr_add0]
theorem run_take (A : Option Addr) (len c n : Nat) (hn : n ≤ c) (w : World) :
    (Instr.slice 28 (.slice A len c) none (some (.int .i64 (n : Int))) none).run Tryz.prog w = .ok (.slice A n c) w := by
  obtain ⟨i0, hi, hz⟩ := Option.map_eq_some_iff.1 x_size
  simp [Instr.slice, Instr.sliceBounds, Instr.sliceBound, run_underlying Tryz.underlying28, sizeOf, typeInfo, hi, Result.andThen, asIntOf, hn, map_add0]
theorem run_drop (A : Option Addr) (len c n : Nat) (hn : n ≤ len) (w : World) :
    (Instr.slice 28 (.slice A len c) (some (.int .i64 (n : Int))) none none).run Tryz.prog w = .ok (.slice (if c = n then A else A.map (·.add (n * 7))) (len - n) (c - n)) w := by
  obtain ⟨i0, hi, hz⟩ := Option.map_eq_some_iff.1 x_size
  simp [Instr.slice, Instr.sliceBounds, Instr.sliceBound, run_underlying Tryz.underlying28, sizeOf, typeInfo, hi, hz, Result.andThen, asIntOf, hn]
theorem run_mid (A : Option Addr) (len c n m : Nat) (hnm : n ≤ m) (hm : m ≤ c) (w : World) :
    (Instr.slice 28 (.slice A len c) (some (.int .i64 (n : Int))) (some (.int .i64 (m : Int))) none).run Tryz.prog w = .ok (.slice (if c = n then A else A.map (·.add (n * 7))) (m - n) (c - n)) w := by
  obtain ⟨i0, hi, hz⟩ := Option.map_eq_some_iff.1 x_size
  simp [Instr.slice, Instr.sliceBounds, Instr.sliceBound, run_underlying Tryz.underlying28, sizeOf, typeInfo, hi, hz, Result.andThen, asIntOf, hnm, hm]
theorem SlX.tail {w : World} {B : Nat} {A : Option Addr} {l : List Ins} (h : SlX w B A l) {n c : Nat} (hc : l.length ≤ c) : SlX w B (if c = n then A else A.map (·.add (n * 7))) (l.drop n) := by
  by_cases e : c = n
  · rw [if_pos e, List.drop_of_length_le (by omega)]; exact SlX.nil
  · rw [if_neg e]
    cases hl : l with
    | nil => rw [List.drop_nil]; exact SlX.nil
    | cons a t =>
      obtain ⟨b, off, rfl, hB⟩ := h.addr (by rw [hl]; simp)
      rw [← hl]
      have e2 : (⟨b, off, none⟩ : Addr).add (n * 7) = ⟨b, off + n * 7, none⟩ := by unfold Addr.add; split <;> simp_all
      simp only [Option.map_some, e2]
      exact h.drop n
end Go.Proofs.YtbnddpknejgmhaaGreat
namespace Go.Proofs.YtbnddpknejgmhaaGreat
open Go.RowKit
set_option maxRecDepth 100000

def mayB : Int → List Ins → List Int → Bool
  | _, l, [] => decide (l.length = 0)
  | rack, l, n :: ps => if n < 1 ∨ (l.length : Int) < n ∨ ((lonF rack (l.take n.toNat) : Nat) : Int) < n then false else mayB (rackedI rack (l.getD (n.toNat - 1) ⟨0, false, 0, 0, 0, 0, 0⟩)) (l.drop n.toNat) ps
def mayE (rack : Int) (l : List Ins) (ps : List Int) : Bool := decide (lookE rack l = 0) && mayB rack l ps
theorem racked_rng {rack : Int} {i : Ins} (hi : i.fit) (hr : -8 ≤ rack ∧ rack ≤ 8) : -8 ≤ rackedI rack i ∧ rackedI rack i ≤ 8 := by
  obtain ⟨_, _, _, _, _, _, _, h1, h2⟩ := hi
  unfold rackedI
  split <;> omega

theorem addr_lit (b off j : Nat) : (⟨b, off, none⟩ : Addr).add j = ⟨b, off + j, none⟩ := by unfold Addr.add; split <;> simp_all
end Go.Proofs.YtbnddpknejgmhaaGreat
namespace Go.Proofs.YtbnddpknejgmhaaGreat
open Go.RowKit
set_option maxRecDepth 100000

theorem growRun_le (rack : Int) (a : Ins) : ∀ (t : List Ins) (l : Ins) (U : List Hook), growRun rack a l U t ≤ t.length
  | [], _, _ => Nat.le_refl _
  | i :: t, l, U => by
    simp only [growRun]
    split
    · have := growRun_le rack a t i (growU a U i); simp; omega
    · simp
theorem lonF_le (rack : Int) (l : List Ins) : lonF rack l ≤ l.length := by
  cases l with
  | nil => exact Nat.le_refl _
  | cons i t => have := growRun_le rack i t i (hooks i).reverse; simp only [lonF, List.length_cons]; omega
theorem lonF_pos (rack : Int) {l : List Ins} (h : 0 < l.length) : 1 ≤ lonF rack l := by
  cases l with
  | nil => simp at h
  | cons i t => simp only [lonF]; omega
def ins0 : Ins := ⟨0, false, 0, 0, 0, 0, 0⟩
/-- The passes that are taken greedily. -/
def fewM : Nat → Int → List Ins → List Nat
  | 0, _, _ => []
  | f + 1, rack, l => if l.length = 0 then [] else lonF rack l :: fewM f (rackedI rack (l.getD (lonF rack l - 1) ins0)) (l.drop (lonF rack l))
theorem fewM_more : ∀ (f g : Nat) (rack : Int) (l : List Ins), l.length ≤ f → f ≤ g → fewM g rack l = fewM f rack l
  | 0, 0, _, _, _, _ => rfl
  | 0, g + 1, rack, l, h, _ => by simp only [fewM]; rw [if_pos (by omega)]
  | f + 1, 0, _, _, _, h => by omega
  | f + 1, g + 1, rack, l, h, hg => by
    simp only [fewM]
    split
    · rfl
    · next hn =>
      have := lonF_pos rack (l := l) (by omega)
      rw [fewM_more f g _ _ (by rw [List.length_drop]; omega) (by omega)]
def few (rack : Int) (l : List Ins) : List Nat := fewM l.length rack l
theorem few_nil {rack : Int} {l : List Ins} (h : l.length = 0) : few rack l = [] := by unfold few; rw [h]; rfl
theorem few_step {rack : Int} {l : List Ins} (h : 0 < l.length) : few rack l = lonF rack l :: few (rackedI rack (l.getD (lonF rack l - 1) ins0)) (l.drop (lonF rack l)) := by
  unfold few
  obtain ⟨n, hn⟩ : ∃ n, l.length = n + 1 := ⟨l.length - 1, by omega⟩
  have hp := lonF_pos rack h
  rw [hn]
  simp only [fewM]
  rw [if_neg (by omega), fewM_more _ n _ _ (Nat.le_refl _) (by rw [List.length_drop]; omega)]
def fewE (rack : Int) (l : List Ins) : List Nat := if lookE rack l = 0 then few rack l else []
def slen : Value → Nat | .slice _ n _ => n | _ => 0
def natV (l : List Nat) : List Value := l.map fun (n : Nat) => Value.int .i64 (n : Int)
theorem info_int : (Tryz.prog.info? 3).map (fun i => (i.zero, i.size, i.bytes)) = some (some (.int .i64 0), 1, 8) := by kernel_rfl

theorem drop_ex {w : World} {B : Nat} {A : Option Addr} {l : List Ins} (h : SlX w B A l) {n c : Nat} (hc : l.length ≤ c) (hn : n ≤ l.length) :
    ∃ A2, (∀ W : World, (Instr.slice 28 (.slice A l.length c) (some (.int .i64 (n : Int))) none none).run Tryz.prog W = .ok (.slice A2 (l.length - n) (c - n)) W) ∧ SlX w B A2 (l.drop n) :=
  ⟨_, run_drop A l.length c n hn, h.tail hc⟩
set_option maxHeartbeats 1000000 in
theorem fewest_any (rack : Int) (A : Option Addr) (c : Nat) (l : List Ins) (hw : ∀ i ∈ l, i.wf) (hn : l.length ≤ 4611686018427387904) (hlc : l.length ≤ c) (w : World) (hs : SlX w w.heap.size A l) :
    Calls Tryz.prog 16 #[.int .i64 rack, .slice A l.length c] w fun e w' =>
      ∃ v, e = .returned (.tuple #[v, .int .i64 (lookE rack l)]) ∧ w'.ownsRow w.heap.size 3 1 v (fewE rack l).length (natV (fewE rack l)) ∧ Below w.heap.size w w' := by
  have HK := Lib.hid (look_any rack A c l w hs hn)
  obtain ⟨i0, hi, hz0, hz1, hz2⟩ := info_parts info_int
  by_cases he : lookE rack l = 0
  case neg =>
    have HI : Hid (fewE rack l = []) := by unfold Hid fewE; rw [if_neg he]
    have hb : (lookE rack l == 0) = false := beq_eq_false_iff_ne.2 he
    generalize lookE rack l = x at HK hb ⊢
    clear he hs hw
    go_enter Tryz.func16, Tryz.ntmps16
    go_wp2_with (go_at_call 41; refine HK.out.mono ?_; rintro e w1 ⟨rfl, hb1⟩)
    go_ret2
    exact ⟨_, rfl, by rw [HI.out]; exact World.ownsRow_nil _ _ _ _, hb1⟩
  case pos =>
    have hz := look_zero he
    have hf := look_fit hw he
    have HI : Hid (fewE rack l = few rack l) := by unfold Hid fewE; rw [if_pos he]
    rw [he] at HK ⊢
    clear he hw
    go_enter Tryz.func16, Tryz.ntmps16
    go_wp2_with (go_at_call 41; refine HK.out.mono ?_; rintro e w1 ⟨rfl, hb1⟩)
    go_loopw [0, 1, 7] (fun s0 s1 s7 wr => ∃ r' A' c' l' acc, s0 = .int .i64 r' ∧ s1 = .slice A' l'.length c' ∧ wr.ownsRow w.heap.size 3 1 s7 acc.length (natV acc) ∧ acc.length + l'.length ≤ 2000 ∧ l'.length ≤ c' ∧ (-8 ≤ r' ∧ r' ≤ 8) ∧ (∀ i ∈ l', i.fit) ∧ SlX w w.heap.size A' l' ∧ Hid (fewE rack l = acc ++ few r' l') ∧ Below w.heap.size w wr) (fun _ s1 _ _ => slen s1)
    case atStart => exact ⟨rack, A, c, l, [], rfl, rfl, World.ownsRow_nil _ _ _ _, by simpa using hz.2.1, hlc, hz.1, hf, hs, HI, hb1⟩
    case round =>
      obtain ⟨r', A', c', l', acc, rfl, rfl, hown, hl', hlc', hr', hf', hs', HM, hbw⟩ := hrel
      by_cases hpos : 0 < l'.length
      · have HLn := Lib.hid (longest_any r' hr' A' c' l' hf' (by omega) wr ((hs'.below hbw).more hbw.size))
        have h1 := lonF_pos r' hpos
        have h2 := lonF_le r' l'
        have HS := Lib.hid (few_step (rack := r') hpos)
        generalize lonF r' l' = n at HLn h1 h2 HS
        obtain ⟨b', off', i, rfl, hB', hi', hci⟩ := hs'.at_ (k := n - 1) (by omega)
        obtain ⟨A2, hsd, hsd2⟩ := drop_ex hs' hlc' h2
        have HF : Hid (fewE rack l = (acc ++ [n]) ++ few (rackedI r' i) (l'.drop n)) := by
          unfold Hid; rw [HM.out, HS.out, List.getD, hi', List.append_assoc]; rfl
        have hfi := hf' i (List.mem_of_getElem? hi')
        have hfd : ∀ j ∈ l'.drop n, j.fit := fun j hj => hf' j (List.mem_of_mem_drop hj)
        have hci2 := Lib.hid (fun w2 (hb : Below w.heap.size w w2) => hci.below hb hB')
        have hw1 : IntKind.i64.wrap ((n : Int) - 1) = ((n - 1 : Nat) : Int) := by rw [IntWalk.i64_in _ (by omega)]; omega
        have HR := Lib.hid (racked_any r' i)
        have hdl : (l'.drop n).length = l'.length - n := List.length_drop
        have HH := Lib.hid (show _ ∧ _ ∧ _ ∧ _ from ⟨hfi, hfd, hsd2, hdl⟩)
        clear hs' hf' HM hci hfi hfd hsd2 hdl HS hs hf
        go_wp2_with (first
          | (go_at_call 42; refine HLn.out.mono ?_; rintro e w2 ⟨rfl, hb2⟩
             obtain ⟨c0, c1, c2, c3, c4, c5, c6⟩ := hci2.out w2 (hbw.trans (hb2.mono hbw.size)))
          | (go_at_call 43; refine (HR.out _).mono ?_; rintro e w3 ⟨rfl, hb3⟩
             have hbw3 := Lib.hid ((hbw.trans (hb2.mono hbw.size)).trans (hb3.mono (Nat.le_trans hbw.size hb2.size)))
             have hown3 := Lib.hid (own_below (own_below hown hb2 (Nat.le_refl _)) hb3 (Nat.le_refl _))))
        go_region_law ((refine step_append_lies _ (by rfl) _ _ _ (by rfl) w.heap.size 3 i0 (.int .i64 0) 1 8 Tryz.underlying43 hi hz0 hz1 hz2 rfl (by decide) _ _ _ (by rfl) (World.ownsRow.alloc hown3.out (.cells #[.int .i64 (n : Int)] 3)) ⟨w3.heap.size, 0, none⟩ 1 1 [.int .i64 (n : Int)] (by rfl) rfl (cell_one_new w3 _ _) (by simp [Value.oneCell']) (by decide) (by unfold maxLen; omega) (by omega) (by have := hbw3.out.size; simp; omega) (w3.heap.size + 1) (by simp) ?_; intro g cap w4 hown4 hgrow _ _; have hO4 := Lib.hid hown4; have hG4 := Lib.hid hgrow; clear hown4 hgrow))
        go_simp
        go_wp2
        go_roundw
        case rel =>
          refine ⟨_, A2, c' - n, l'.drop n, acc ++ [n], rfl, by rw [HH.out.2.2.2], ?_, by rw [HH.out.2.2.2, List.length_append]; simp; omega, by rw [HH.out.2.2.2]; omega, racked_rng HH.out.1 hr', HH.out.2.1, HH.out.2.2.1, HF, ?_⟩
          · rw [List.length_append, show natV (acc ++ [n]) = natV acc ++ [.int .i64 (n : Int)] by simp [natV]]; exact hO4.out
          · exact own_step (o := .cells #[.int .i64 (n : Int)] 3) hbw3.out hown3.out hbw3.out.size ⟨hG4.out.os, hG4.out.tape, hG4.out.output, hG4.out.size, hG4.out.block⟩
        case measure => simp [slen]; omega
      · have HF : Hid (fewE rack l = acc) := by unfold Hid; rw [HM.out, few_nil (by omega), List.append_nil]
        have h0 : l'.length = 0 := by omega
        clear hs' hf' HM hs hf
        go_wp2
        go_ret2
        exact ⟨_, rfl, by rw [HF.out]; exact hown, hbw⟩
end Go.Proofs.YtbnddpknejgmhaaGreat
