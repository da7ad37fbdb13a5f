/- Layer 28, the program: Ends. -/
import Derived.Test.YtbibndpkcilblaaKDf
namespace Go.Proofs.Ytbibndpkcilblaa
open Go.RowKit Go.Shelf Go.Sort
set_option maxRecDepth 100000

/-- What Ends drops. -/
def dropE (lv : Nat) (bd : List Int) (x : Int) : Bool := decide (x < (lv : Int)) && !bd.contains x
def endF (t : Pw) (i : Nat) : Nat → Bool := fun k => hangF t.lp i k && !dropE t.next t.bound (k : Int)
theorem endF_list (t : Pw) (i M : Nat) : ((listN M (hangF t.lp i)).filter fun x => !dropE t.next t.bound x) = listN M (endF t i) := by
  unfold listN endF
  rw [List.filter_map, List.filter_filter]
  congr 1
  refine List.filter_congr fun k _ => ?_
  show (!dropE t.next t.bound (k : Int) && hangF t.lp i k) = _
  rw [Bool.and_comm]
/-- What Ends answers: the error, the list. -/
def endS (start : Int) (p : List RowC) (i : Int) : Int × List Int :=
  if chartE start p ≠ 0 then (chartE start p, []) else if i < 0 ∨ ((workX start p).lp.length : Int) ≤ i then (2, []) else (0, listN (workX start p).lp.length (endF (workX start p) i.toNat))
set_option maxHeartbeats 1000000 in
theorem ends1_any (x : Int) (qb lv n bc : Nat) (b : Option Addr) (bd : List Int) (w : World) (hn : n = bd.length) (h2 : w.cell? ⟨qb, 2, none⟩ = some (.slice b n bc)) (h3 : w.cell? ⟨qb, 3, none⟩ = some (.int .i64 (lv : Int))) (hs : SlI w w.heap.size b bd) (hl : n ≤ 1000000) :
    Calls Try.prog 51 #[.int .i64 x, .pointer (some ⟨qb, 0, none⟩)] w fun e w2 => e = .returned (.bool (dropE lv bd x)) ∧ w2 = w := by
  have HC := Lib.hid (pcontains_any b bc bd x w hs (by omega))
  rw [← hn] at HC
  clear hs hn
  by_cases hx : x < (lv : Int)
  · have z1 : decide (x < (lv : Int)) = true := decide_eq_true hx
    have HR : Hid (dropE lv bd x = !bd.contains x) := by show _ = _; unfold dropE; rw [z1, Bool.true_and]
    generalize bd.contains x = q at HC HR
    go_enter Try.func51, Try.ntmps51
    go_wp2_with fail
    refine HC.out.mono ?_
    rintro e w2 ⟨rfl, rfl⟩
    go_wp2
    go_ret
    exact ⟨by rw [HR.out]; rfl, rfl⟩
  · have z1 : decide (x < (lv : Int)) = false := decide_eq_false hx
    have HR : Hid (dropE lv bd x = false) := by show _ = _; unfold dropE; rw [z1, Bool.false_and]
    go_enter Try.func51, Try.ntmps51
    go_wp2
    go_ret
    exact ⟨by rw [HR.out]; rfl, rfl⟩
theorem own_block_ge {w : World} {B : Nat} {v : Value} {l : List Int} (h : ownI w B v l) {k : Nat} (hk : v.ownBlock = some k) : B ≤ k := by
  rcases h.2 with ⟨rfl, -⟩ | ⟨b, cap, cur, rfl, hb, -⟩
  · simp [Value.ownBlock] at hk
  · simp [Value.ownBlock] at hk
    omega
theorem delF_ends {v : Value} {n cc : Nat} {A : Option Addr} {l : List Int} {w W w3 : World} {qb : Nat} {a k b : Option Addr} {c kc bc : Nat} {t : Pw} (e : v = .slice A n cc) (hn : n = l.length) (ho : ownI w3 W.heap.size v l) (hb : Below W.heap.size W w3) (h : LdB qb a k b c kc bc t w W) (hl : l.length ≤ 1000000) (hbl : t.bound.length ≤ 1000000) :
    Calls Try.prog 50 #[.slice A n cc, .func (.func 51) #[] #[.pointer (some ⟨qb, 0, none⟩)]] w3 fun e w' => ∃ v', e = .returned v' ∧ (pxJ v' (l.filter fun x => !dropE t.next t.bound x)).lies w' W.heap.size ∧ Below W.heap.size W w' := by
  subst e
  subst hn
  have hge : ∀ k, (Value.slice A l.length cc).ownBlock = some k → W.heap.size ≤ k := fun k hk => own_block_ge ho hk
  refine (delF_any 51 _ (enters_of Try.func51 (by kernel_rfl) rfl) (dropE t.next t.bound) W.heap.size cc A l hl w3 ho fun x W' hg => ?_).mono ?_
  · have hbb := hb.trans (Below.of_grown hg hb.size hge)
    have h' := h.to hbb
    exact ends1_any x qb t.next t.bound.length bc b t.bound W' rfl h'.c2 h'.c3 h'.pc.bd hbl
  · rintro e w' ⟨v', rfl, h1, h2, -⟩
    exact ⟨v', rfl, h1, hb.trans (Below.of_grown h2 hb.size hge)⟩
set_option maxHeartbeats 2000000 in
theorem Ends_err (start : Int) (A : Option Addr) (c : Nat) (p : List RowC) (hw : RowsWf p) (he : chartE start p ≠ 0) (i : Int) (w : World) (hs : SlC w w.heap.size A p) :
    Calls Try.prog 26 #[.agg #[.int .i64 start, .slice A p.length c], .int .i64 i] w fun e w' => BoPost (chartE start p) [] w e w' := by
  have hF := lf_front start A c p hw (fun h => absurd h he) w hs
  have c0 := hF.cb0
  have c1 := hF.cb1
  have HC := Lib.hid (hF.err he)
  have HB0 := Lib.hid hF.bel
  obtain ⟨x, hx⟩ : ∃ x, x = chartE start p := ⟨_, rfl⟩
  rw [← hx] at HC he ⊢
  have hne : (x != 0) = true := by simp [he]
  clear hF hs hw hx he
  go_enter Try.func26, Try.ntmps26
  go_wp2_with (go_at_call 30; refine HC.out.mono ?_; rintro e w2 ⟨rfl, hb⟩; have HB := Lib.hid (HB0.out.trans ((hb.trans ((al_t w2 (.cells #[nilV, nilV, nilV, .int .i64 0] 63)).mono hb.size)).mono HB0.out.size)); clear hb)
  go_ret2
  exact ⟨_, rfl, World.ownsRow_nil _ _ _ _, HB.out⟩
set_option maxHeartbeats 4000000 in
theorem Ends_arg (start : Int) (A : Option Addr) (c : Nat) (p : List RowC) (hw : RowsWf p) (h12 : p.length ≤ 12) (he : chartE start p = 0) (i : Int) (hi : i < 0 ∨ ((workX start p).lp.length : Int) ≤ i) (w : World) (hs : SlC w w.heap.size A p) :
    Calls Try.prog 26 #[.agg #[.int .i64 start, .slice A p.length c], .int .i64 i] w fun e w' => BoPost 2 [] w e w' := by
  have hF := lf_front start A c p hw (fun _ => h12) w hs
  have c0 := hF.cb0
  have c1 := hF.cb1
  have hC := hF.ok he
  have HF := Lib.hid hF
  obtain ⟨t, ht⟩ : ∃ t, t = workX start p := ⟨_, rfl⟩
  rw [← ht] at hC hi
  have HC := Lib.hid hC
  have HI := Lib.hid hi
  clear hF hs hw he hC ht hi
  go_enter Try.func26, Try.ntmps26
  go_upto_region 2 with (go_at_call 30; refine HC.out.mono ?_; rintro e w2 ⟨a, ca, k, kc, b, bc, rfl, hp, hb⟩; have HB := Lib.hid (HF.out.behind (ca := ca) (kc := kc) (bc := bc) hp hb); clear hp hb)
  obtain ⟨qb, hqb⟩ : ∃ qb, qb = w2.heap.size := ⟨_, rfl⟩
  refine abs_world (Q := fun W => Code.wp _ _ _ _ W) (F := fun W => LdB qb a k b ca kc bc t w W) _ (by rw [hqb]; exact HB.out) ?_
  rw [← hqb]
  clear hqb HB HC c0 c1
  clear w2
  rintro W h
  have y0 := h.c0
  have HB2 := Lib.hid h.bel
  clear h
  obtain ⟨M, hM⟩ : ∃ M, M = t.lp.length := ⟨_, rfl⟩
  rw [← hM] at y0 HI ⊢
  by_cases h0 : i < 0
  · have z1 : decide (i < 0) = true := decide_eq_true h0
    go_wp2
    go_ret2
    exact ⟨_, rfl, World.ownsRow_nil _ _ _ _, HB2.out⟩
  · have hMi : (M : Int) ≤ i := HI.out.resolve_left h0
    have z1 : decide (i < 0) = false := decide_eq_false h0
    have z2 : decide ((M : Int) ≤ i) = true := decide_eq_true hMi
    have z3 : decide (i ≥ (M : Int)) = true := decide_eq_true hMi
    go_wp2
    go_ret2
    exact ⟨_, rfl, World.ownsRow_nil _ _ _ _, HB2.out⟩
set_option maxHeartbeats 4000000 in
theorem Ends_ok (start : Int) (A : Option Addr) (c : Nat) (p : List RowC) (hw : RowsWf p) (h12 : p.length ≤ 12) (he : chartE start p = 0) (i : Nat) (hi : i < (workX start p).lp.length) (w : World) (hs : SlC w w.heap.size A p) :
    Calls Try.prog 26 #[.agg #[.int .i64 start, .slice A p.length c], .int .i64 (i : Int)] w fun e w' => BoPost 0 (listN (workX start p).lp.length (endF (workX start p) i)) w e w' := by
  have hF := lf_front start A c p hw (fun _ => h12) w hs
  have c0 := hF.cb0
  have c1 := hF.cb1
  have hC := hF.ok he
  have HG := Lib.hid (chart_grd he h12)
  have HF := Lib.hid hF
  obtain ⟨t, ht⟩ : ∃ t, t = workX start p := ⟨_, rfl⟩
  rw [← ht] at hC hi HG ⊢
  have HC := Lib.hid hC
  have HI := Lib.hid hi
  obtain ⟨M, hM⟩ : ∃ M, M = t.lp.length := ⟨_, rfl⟩
  have HMe := Lib.hid hM
  clear hF hs hw he hC ht hi hM
  go_enter Try.func26, Try.ntmps26
  go_upto_region 2 with (go_at_call 30; refine HC.out.mono ?_; rintro e w2 ⟨a, ca, k, kc, b, bc, rfl, hp, hb⟩; have HB := Lib.hid (HF.out.behind (ca := ca) (kc := kc) (bc := bc) hp hb); clear hp hb)
  obtain ⟨qb, hqb⟩ : ∃ qb, qb = w2.heap.size := ⟨_, rfl⟩
  refine abs_world (Q := fun W => Code.wp _ _ _ _ W) (F := fun W => LdB qb a k b ca kc bc t w W) _ (by rw [hqb]; exact HB.out) ?_
  rw [← hqb]
  clear hqb HB HC c0 c1
  clear w2
  rintro W h
  have y0 := h.c0
  have y1 := h.c1
  have y2 := h.c2
  have y3 := h.c3
  have hMi := HI.out
  rw [← HMe.out] at y0 y1 hMi ⊢
  have z1 : decide ((i : Int) < 0) = false := decide_eq_false (by omega)
  have z2 : decide ((M : Int) ≤ (i : Int)) = false := decide_eq_false (by omega)
  have z3 : decide ((i : Int) ≥ (M : Int)) = false := decide_eq_false (by omega)
  have z4 : decide (M ≤ i) = false := decide_eq_false (by omega)
  have HL := Lib.hid h
  have HH := Lib.hid (phangs_any t.lp t.bound p.length t.next (grd_n HG.out.g) HG.out.ll a k b ca kc t.bound.length bc (t.next : Int) t.bound i HI.out W h.pc)
  rw [← HMe.out] at HH
  clear h
  go_wp2_with fail
  refine HH.out.mono ?_
  rintro e w3 ⟨v, rfl, ho, hb3⟩
  have ho2 : ownI w3 W.heap.size v (listN M (hangF t.lp i)) := ho
  have HMl := Lib.hid (listN_len M (hangF t.lp i))
  have HDf := Lib.hid (fun (n : Nat) (cc : Nat) (A : Option Addr) (e : v = .slice A n cc) (hn : n = (listN M (hangF t.lp i)).length) => delF_ends (W := W) (w3 := w3) e hn ho2 hb3 HL.out (by have := HMl.out; have := HG.out.ll; have := HMe.out; omega) (by have := HG.out.bl; omega))
  obtain ⟨n, hn⟩ : ∃ n, n = (listN M (hangF t.lp i)).length := ⟨_, rfl⟩
  obtain ⟨A', c', rfl⟩ := pxJ_is ho hn.symm
  have HD := Lib.hid (HDf.out n c' A' rfl hn)
  clear ho ho2 hb3 HH HDf hn
  go_wp2_with fail
  refine HD.out.mono ?_
  rintro e w4 ⟨v', rfl, ho4, hb4⟩
  rw [endF_list, HMe.out] at ho4
  have HQ := Lib.hid (And.intro (own_more ho4 HL.out.bel.size) (HL.out.bel.trans (hb4.mono HL.out.bel.size)))
  clear ho4 hb4 HD
  go_wp2
  go_ret2
  refine ⟨_, rfl, ?_, HQ.out.2⟩
  exact HQ.out.1
/-- Ends for every chart and number. -/
theorem Ends_x (start : Int) (A : Option Addr) (c : Nat) (p : List RowC) (hw : RowsWf p) (h12 : chartE start p = 0 → p.length ≤ 12) (i : Int) (w : World) (hs : SlC w w.heap.size A p) :
    Calls Try.prog 26 #[.agg #[.int .i64 start, .slice A p.length c], .int .i64 i] w fun e w' => BoPost (endS start p i).1 (endS start p i).2 w e w' := by
  by_cases he : chartE start p = 0
  · unfold endS
    rw [if_neg (by rw [he]; decide)]
    by_cases hi : i < 0 ∨ ((workX start p).lp.length : Int) ≤ i
    · rw [if_pos hi]
      exact Ends_arg start A c p hw (h12 he) he i hi w hs
    · rw [if_neg hi]
      obtain ⟨n, rfl⟩ : ∃ n : Nat, i = (n : Int) := ⟨i.toNat, by omega⟩
      exact Ends_ok start A c p hw (h12 he) he n (by omega) w hs
  · unfold endS
    rw [if_pos he]
    exact Ends_err start A c p hw he i w hs
end Go.Proofs.Ytbibndpkcilblaa
