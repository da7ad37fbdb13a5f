/- Layer 28, the program: run. -/
import Derived.Test.YtbibndpkcilblaaKG17
import Derived.Deep.LoopGhost
import Derived.WalkMore
namespace Go.Proofs.Ytbibndpkcilblaa
open Go.RowKit Go.Shelf Go.Sort
set_option maxRecDepth 100000

theorem hmf_any : ∀ (fn : Fn) (first cap : Array Value) (w : World), (Instr.makeFunc fn first cap).run Try.prog w = .ok (.func fn first cap) w := fun _ _ _ _ => rfl
theorem wfN {i : Nat} (h : i ≤ 1000000) : wfK (i : Int) := WalkArith.wf_i64 (by omega)
theorem PcAt.below {W W' : World} {B : Nat} {a k b : Option Addr} {L : List Lp} {K : List (List Int)} {bd : List Int} (h : PcAt W B a k b L K bd) (hb : Below B W W') : PcAt W' B a k b L K bd := ⟨h.lp.below hb, h.kd.below hb, h.bd.below hb⟩
set_option maxHeartbeats 1000000 in
theorem pnot_any (ob mb n i : Nat) (hi : i ≤ 1000000) (out : Nat → Bool) (w : World) (h0 : w.cell? ⟨ob, 0, none⟩ = some (.map (some mb))) (hm : MapV w mb n (gO out)) :
    Calls Try.prog 58 #[.int .i64 (i : Int), .pointer (some ⟨ob, 0, none⟩)] w fun e w' => e = .returned (.bool (!out i)) ∧ Below w.heap.size w w' := by
  have hl := hm.look (T := 71) Try.underlying71 (z := .bool false) (by kernel_rfl) (wfN hi)
  rw [gO_at] at hl
  clear hm
  go_enter Try.func58, Try.ntmps58
  go_wp2
  go_ret
  exact ⟨rfl, Below.refl _ _⟩
def lqV (a k b : Option Addr) (M c kc nb bc : Nat) (live : Int) : List Value := [.slice a M c, .slice k M kc, .slice b nb bc, .int .i64 live]
/-- The boxes of a run: the piece, the map. -/
abbrev runX (ob mb qb : Nat) (vals : List Value) : List Own := [bxT 71 ob [.map (some mb)], bxT 63 qb vals]
theorem run_start (w : World) (a k b : Option Addr) (M c kc nb bc : Nat) (live : Int) : RnA w.heap.size (w.heap.size + 1) 0 (gO fun _ => false) (runX (w.heap.size + 1 + 1) (w.heap.size + 1) w.heap.size (lqV a k b M c kc nb bc live)) (((w.alloc (.cells #[.slice a M c, .slice k M kc, .slice b nb bc, .int .i64 live] 63)).alloc (.map #[] 0)).alloc (.cells #[.map (some (w.heap.size + 1))] 71)) ∧
    Below w.heap.size w (((w.alloc (.cells #[.slice a M c, .slice k M kc, .slice b nb bc, .int .i64 live] 63)).alloc (.map #[] 0)).alloc (.cells #[.map (some (w.heap.size + 1))] 71)) := by
  have hb1 := al_t w (.cells #[.slice a M c, .slice k M kc, .slice b nb bc, .int .i64 live] 63)
  obtain ⟨w1, hw1⟩ : ∃ x, x = w.alloc (.cells #[.slice a M c, .slice k M kc, .slice b nb bc, .int .i64 live] 63) := ⟨_, rfl⟩
  have h1 : Owns w1 w.heap.size [bxT 63 w.heap.size (lqV a k b M c kc nb bc live)] := by
    rw [hw1]
    exact Owns.add Owns.nil hb1 (Nat.le_refl _) (bxT_new w _ _)
  have hs1 : w1.heap.size = w.heap.size + 1 := by rw [hw1]; simp
  rw [← hw1] at hb1 ⊢
  have hb2 := al_t w1 (.map #[] 0)
  have hm := MapV.new w1
  have hs2 : (w1.alloc (.map #[] 0)).heap.size = w.heap.size + 1 + 1 := by simp [hs1]
  rw [hs1] at hm
  have hR : RnA w.heap.size (w.heap.size + 1) 0 (gO fun _ => false) [bxT 63 w.heap.size (lqV a k b M c kc nb bc live)] (w1.alloc (.map #[] 0)) := ⟨h1.to hb2, by rw [gO_none]; exact hm, Nat.le_succ _⟩
  have hb3 := al_t (w1.alloc (.map #[] 0)) (.cells #[.map (some (w.heap.size + 1))] 71)
  have h3 := hR.add hb3 (by omega) (bxT_new _ 71 [.map (some (w.heap.size + 1))])
  rw [hs2] at h3
  exact ⟨h3, hb1.trans ((hb2.mono hb1.size).trans (hb3.mono (by omega)))⟩
/-- What run hands back. -/
def RunPost (lp : List Lp) (drop : List Int) (w : World) (e : Ending) (w' : World) : Prop := ∃ mb n, e = .returned (.map (some mb)) ∧ MapV w' mb n (gO (runL lp drop)) ∧ w.heap.size ≤ mb ∧ Below w.heap.size w w'
/-- What holds ahead of a row of the run. -/
structure RunI (lp : List Lp) (drop : List Int) (K : Nat) (out : Nat → Bool) (next : List Int) (g : Nat) : Prop where
  st : (∃ r : Int, RunS lp drop K out next r ∧ r.toNat < g) ∨ (next = [] ∧ ∀ i, i < lp.length → out i = runF lp drop i)
  hi : ∀ i, lp.length ≤ i → out i = false
  nx : ∀ x ∈ next, ∃ i : Nat, x = (i : Int) ∧ i < lp.length
  len : next.length ≤ lp.length
theorem runI_start {lp : List Lp} {bound : List Int} {K lv : Nat} (h : GrN lp bound K lv) {drop : List Int} (hd : DropOk lp lv drop) : RunI lp drop K (fun _ => false) drop (K + 1) := by
  refine ⟨Or.inl ⟨K, RunS.start h hd, by omega⟩, fun _ _ => rfl, fun x hx => ?_, ?_⟩
  · have := hd.rng x hx
    exact ⟨x.toNat, by omega, by omega⟩
  · have := up_len hd.up (a := 0) (b := (lp.length : Int)) fun x hx => by have := hd.rng x hx; omega
    omega
theorem runI_done {lp : List Lp} {bound : List Int} {K lv : Nat} (h : GrN lp bound K lv) {drop : List Int} (hd : DropOk lp lv drop) {out : Nat → Bool} {g : Nat} (hi : RunI lp drop K out [] g) : out = runL lp drop := by
  refine runL_eq (fun i hil => ?_) hi.hi
  rcases hi.st with ⟨r, hr, -⟩ | ⟨-, hf⟩
  · exact hr.done h hd i hil
  · exact hf i hil
/-- The next loops, j of those below asked. -/
def nextK (lp : List Lp) (O : Nat → Bool) (C : List Int) (j : Nat) : List Int := (C.take j).filter fun x => (kidsN lp x.toNat).all O
theorem nextK_yes {lp : List Lp} {O : Nat → Bool} {C : List Int} {j : Nat} {x : Int} (hx : C[j]? = some x) (h : (kidsN lp x.toNat).all O = true) : nextK lp O C (j + 1) = nextK lp O C j ++ [x] := by
  unfold nextK
  rw [List.take_add_one, hx, List.filter_append]
  simp [h]
theorem nextK_no {lp : List Lp} {O : Nat → Bool} {C : List Int} {j : Nat} {x : Int} (hx : C[j]? = some x) (h : (kidsN lp x.toNat).all O = false) : nextK lp O C (j + 1) = nextK lp O C j := by
  unfold nextK
  rw [List.take_add_one, hx, List.filter_append]
  simp [h]
theorem nextK_len (lp : List Lp) (O : Nat → Bool) (C : List Int) (j : Nat) : (nextK lp O C j).length ≤ C.length := by
  unfold nextK
  refine Nat.le_trans (List.length_filter_le _ _) ?_
  rw [List.length_take]
  omega
section
variable {lp : List Lp} {bound : List Int} {K lv : Nat}
theorem run_fin (h : GrN lp bound K lv) {drop : List Int} (hd : DropOk lp lv drop) {out : Nat → Bool} {next : List Int} {r : Int} (hs : RunS lp drop K out next r) (hr : r ≤ 1) : ∀ i, i < lp.length → putAll out next i = runF lp drop i := by
  have h0 := hs.lo
  by_cases e : r = 1
  · subst e
    exact hs.break_ h hd
  · intro i hi
    have := (h.row i hi).1
    exact hs.put i hi (by omega)
theorem run_hi {drop : List Int} {out : Nat → Bool} {next : List Int} {g : Nat} (hi : RunI lp drop K out next g) : ∀ i, lp.length ≤ i → putAll out next i = false := fun i hil => by
  unfold putAll
  rw [hi.hi i hil, Bool.false_or, decide_eq_false_iff_not]
  intro hm
  obtain ⟨q, e, hq⟩ := hi.nx _ hm
  omega
theorem belowC_len (h : GrN lp bound K lv) {drop : List Int} {out : Nat → Bool} {next : List Int} {r : Int} {g : Nat} (hs : RunS lp drop K out next r) (hi : RunI lp drop K out next g) : (∀ x ∈ belowC lp next, ∃ q : Nat, x = (q : Int) ∧ q < lp.length ∧ rowN lp q + 1 = r) ∧ (belowC lp next).length ≤ lp.length := by
  have hb := hs.below h (belowC_L (lp := lp) (next := next) fun x hx => by obtain ⟨i, e, -⟩ := hi.nx x hx; omega)
  refine ⟨hb, ?_⟩
  have := up_len (belowC_up lp next) (a := 0) (b := (lp.length : Int)) fun x hx => by obtain ⟨q, e, hq, -⟩ := hb x hx; omega
  omega
theorem run_step (h : GrN lp bound K lv) {drop : List Int} (hd : DropOk lp lv drop) {out : Nat → Bool} {next : List Int} {r : Int} {g : Nat} (hs : RunS lp drop K out next r) (hi : RunI lp drop K out next g) (hg : r.toNat < g) (h1 : r ≤ 1 → belowC lp next = []) :
    RunI lp drop K (putAll out next) (nextK lp (putAll out next) (belowC lp next) (belowC lp next).length) (g - 1) := by
  obtain ⟨hb, hl⟩ := belowC_len h hs hi
  have hC := belowC_L (lp := lp) (next := next) fun x hx => by obtain ⟨i, e, -⟩ := hi.nx x hx; omega
  refine ⟨?_, run_hi hi, fun x hx => ?_, Nat.le_trans (nextK_len _ _ _ _) hl⟩
  · by_cases e : r ≤ 1
    · refine Or.inr ⟨?_, run_fin h hd hs e⟩
      rw [h1 e]; rfl
    · refine Or.inl ⟨r - 1, ?_, by omega⟩
      have := hs.next_ h hd hC (by omega)
      unfold nextK
      rw [List.take_length]
      exact this
  · unfold nextK at hx
    obtain ⟨q, e, hq, -⟩ := hb x (List.mem_of_mem_take (List.mem_filter.1 hx).1)
    exact ⟨q, e, hq⟩
theorem run_brk (h : GrN lp bound K lv) {drop : List Int} (hd : DropOk lp lv drop) {out : Nat → Bool} {next : List Int} {r : Int} {g : Nat} (hs : RunS lp drop K out next r) (hi : RunI lp drop K out next g) (hr : r = 1) : putAll out next = runL lp drop :=
  runL_eq (run_fin h hd hs (by omega)) (run_hi hi)
end
set_option maxHeartbeats 8000000 in
theorem prun_any (L : List Lp) (bound : List Int) (K lv : Nat) (hG : GrN L bound K lv) (hM : L.length ≤ 2600) (hK : K ≤ 12) (a k b : Option Addr) (c kc nb bc : Nat) (live : Int) (bd : List Int) (da : Option Addr) (dc : Nat) (drop : List Int) (hd : DropOk L lv drop) (w : World) (hp : PcAt w w.heap.size a k b L (kidsA L) bd) (hs : SlI w w.heap.size da drop) :
    Calls Try.prog 34 #[.agg #[.slice a L.length c, .slice k L.length kc, .slice b nb bc, .int .i64 live], .slice da drop.length dc] w fun e w' => RunPost L drop w e w' := by
  obtain ⟨h0, hb0⟩ := run_start w a k b L.length c kc nb bc live
  have HX := Lib.hid (And.intro h0 hb0)
  have HPc : Hid (∀ W, Below w.heap.size w W → PcAt W w.heap.size a k b L (kidsA L) bd) := fun W hb => hp.below hb
  have HRd : Hid (∀ W, Below w.heap.size w W → SlI W W.heap.size da drop) := fun W hb => (hs.below hb).more hb.size
  have HG := Lib.hid hG
  have HD := Lib.hid hd
  obtain ⟨M, hMe⟩ : ∃ M, M = L.length := ⟨_, rfl⟩
  have HMe := Lib.hid hMe
  rw [← hMe] at hM HX ⊢
  obtain ⟨D, hDe⟩ : ∃ D, D = drop.length := ⟨_, rfl⟩
  have HDe := Lib.hid hDe
  have HI0 := Lib.hid (runI_start hG hd)
  rw [← hDe]
  obtain ⟨qb, hqb⟩ : ∃ qb, qb = w.heap.size := ⟨_, rfl⟩
  obtain ⟨mb, hmb⟩ : ∃ mb, mb = w.heap.size + 1 := ⟨_, rfl⟩
  obtain ⟨ob, hob⟩ : ∃ ob, ob = w.heap.size + 1 + 1 := ⟨_, rfl⟩
  clear h0 hb0 hp hs hG hd hMe hDe
  go_enter Try.func34, Try.ntmps34
  go_upto_region 1 with fail
  go_step3
  have hmm := @run_makeMap Try.prog
  go_upto_region 2 with fail
  clear hmm
  have HQb := Lib.hid hqb
  rw [← hqb] at HX
  rw [← hqb] at hmb hob
  rw [← hmb] at hob HX
  rw [← hob] at HX
  refine abs_world (Q := fun W => Code.wp _ _ _ _ W) (F := fun W => RnA w.heap.size mb 0 (gO fun _ => false) (runX ob mb qb (lqV a k b M c kc nb bc live)) W ∧ Below w.heap.size w W) _ ?_ ?_
  · have h := HX.out
    rw [hob, hmb] at h ⊢
    rw [hqb] at h ⊢
    exact h
  rw [show (Value.pointer (some ⟨w.heap.size, 0, none⟩)) = Value.pointer (some ⟨qb, 0, none⟩) by rw [hqb], show (Value.pointer (some ⟨w.heap.size + 1 + 1, 0, none⟩)) = Value.pointer (some ⟨ob, 0, none⟩) by rw [hob, hmb, hqb], show Value.map (some (w.heap.size + 1)) = .map (some mb) by rw [hmb, hqb]]
  clear HX hqb hmb hob HQb
  rintro W1 ⟨h1, hb1⟩
  have HX1 : Hid (RnA w.heap.size mb 0 (gO fun _ => false) ([] ++ runX ob mb qb (lqV a k b M c kc nb bc live)) W1 ∧ Below w.heap.size w W1) := ⟨h1, hb1⟩
  clear h1 hb1
  go_wp2
  go_step3
  go_wp2
  go_loopg [6, 7, 9, 11] (K + 1) (fun g s6 s7 s9 s11 wr => ∃ (next : List Int) (A : Option Addr) (cn N : Nat) (X0 : List Own) (out : Nat → Bool) (n : Nat) (v7 v9 v11 : Value), s6 = .slice A N cn ∧ v7 = s7 ∧ v9 = s9 ∧ v11 = s11 ∧ Hid (N = next.length) ∧ Hid (RnA w.heap.size mb n (gO out) (X0 ++ runX ob mb qb (lqV a k b M c kc nb bc live)) wr ∧ Below w.heap.size w wr) ∧ Hid (n + 2700 * g ≤ 40000) ∧ Hid (∀ W n' G' X1, RnA w.heap.size mb n' G' (X1 ++ (X0 ++ runX ob mb qb (lqV a k b M c kc nb bc live))) W → Below w.heap.size w W → SlI W W.heap.size A next) ∧ Hid (RunI L drop K out next g))
  case atStart => exact ⟨drop, da, dc, D, [], fun _ => false, 0, _, _, _, rfl, rfl, rfl, rfl, HDe.out, HX1.out, (by show _ ≤ _; omega), (fun W _ _ _ _ hb => HRd.out W hb), HI0.out⟩
  case round =>
    obtain ⟨next, A, cn, N, X0, out, n, v7, v9, v11, rfl, rfl, rfl, rfl, HN, HX, Hn, HRn, HI⟩ := hrel
    clear HX1
    obtain ⟨W2, hW2⟩ : ∃ x : World, x = wr := ⟨_, rfl⟩
    rw [← hW2] at HX ⊢
    clear hW2
    have hBs : w.heap.size ≤ W2.heap.size := HX.out.2.size
    by_cases hN0 : 0 < N
    case neg =>
      have d1 : decide ((N : Int) > 0) = false := decide_eq_false (by omega)
      have d1' : decide (0 < N) = false := decide_eq_false hN0
      have d1'' : decide ((0 : Int) < (N : Int)) = false := decide_eq_false (by omega)
      have hne : next = [] := List.length_eq_zero_iff.1 (by have := HN.out; omega)
      have hI := HI.out
      rw [hne] at hI
      have ho := runI_done HG.out HD.out hI
      have hX := HX.out
      rw [ho] at hX
      obtain ⟨y, -⟩ := bxT_at (hX.1.mem (o := bxT 71 ob [.map (some mb)]) (by simp))
      have y0 := y 0 _ rfl
      have HQ : Hid (RunPost L drop w (.returned (.map (some mb))) W2) := ⟨mb, n, rfl, hX.1.mp, hX.1.lo, hX.2⟩
      clear hX HX y ho hI hne hBs
      go_wp2
      (try rw [Exit.noGoto_ret])
      go_ret
      exact HQ.out
    case pos =>
      have d1 : decide ((N : Int) > 0) = true := decide_eq_true (by omega)
      have d1' : decide (0 < N) = true := decide_eq_true hN0
      have d1'' : decide ((0 : Int) < (N : Int)) = true := decide_eq_true (by omega)
      obtain ⟨r, hr, hrg⟩ : ∃ r : Int, RunS L drop K out next r ∧ r.toNat < gk := by
        rcases HI.out.st with h | ⟨h, -⟩
        · exact h
        · have := HN.out
          rw [h] at this
          simp at this
          omega
      have hNM : N ≤ 2600 := by
        have h1 := HI.out.len
        have h2 := HN.out
        have h3 := HMe.out
        omega
      have HRs := Lib.hid hr
      have HRg := Lib.hid hrg
      have HX2 : Hid (RnA w.heap.size mb (n + 0) (gO (putAll out (next.take 0))) (pxJ (.slice none (belowK L next 0).length 0) (belowK L next 0) :: (X0 ++ runX ob mb qb (lqV a k b M c kc nb bc live))) W2 ∧ Below w.heap.size w W2) := by
        rw [putAll_zero]
        exact ⟨HX.out.1.nil, HX.out.2⟩
      have hB0 : (belowK L next 0).length = 0 := by simp [belowK]
      rw [hB0] at HX2
      clear HX hr hrg hB0
      go_upto_region 5 with fail
      go_wp2
      go_loopw [7, 9, 19] (fun s7 s9 s19 wr => ∃ (j : Nat) (Ab : Option Addr) (Q cb : Nat) (v9 : Value), j ≤ N ∧ s19 = .int .i64 (j : Int) ∧ s7 = .slice Ab Q cb ∧ v9 = s9 ∧ Hid (Q = (belowK L next j).length) ∧ Hid (RnA w.heap.size mb (n + j) (gO (putAll out (next.take j))) (pxJ (.slice Ab Q cb) (belowK L next j) :: (X0 ++ runX ob mb qb (lqV a k b M c kc nb bc live))) wr ∧ Below w.heap.size w wr)) (fun _ _ s19 _ => N - (intOf s19).toNat)
      case atStart => exact ⟨0, none, 0, 0, _, Nat.zero_le _, rfl, rfl, rfl, (by show 0 = _; simp [belowK]), HX2.out⟩
      case round =>
        obtain ⟨j, Ab, Q, cb, v9', hj, rfl, rfl, rfl, HQ, HX⟩ := hrel
        clear HX2 d1 d1' d1''
        obtain ⟨W3, hW3⟩ : ∃ x : World, x = wr := ⟨_, rfl⟩
        rw [← hW3] at HX ⊢
        clear hW3
        have hBs : w.heap.size ≤ W3.heap.size := HX.out.2.size
        by_cases hjN : j < N
        case pos =>
          have d1 : decide ((j : Int) < (N : Int)) = true := decide_eq_true (by omega)
          have d1' : decide (j < N) = true := decide_eq_true hjN
          obtain ⟨nb', noff, x, eA, hlt3, hx, x0⟩ := (HRn.out W3 _ _ [pxJ (.slice Ab Q cb) (belowK L next j)] HX.out.1 HX.out.2).at_ (k := j) (by have := HN.out; omega)
          subst eA
          obtain ⟨i, e, hi⟩ := HI.out.nx x (List.mem_of_getElem? hx)
          subst e
          have hiM : i < M := by have := HMe.out; omega
          obtain ⟨y, -⟩ := bxT_at (HX.out.1.mem (o := bxT 71 ob [.map (some mb)]) (by simp))
          have y0 := y 0 _ rfl
          obtain ⟨w4, hput, h4, hb4⟩ := HX.out.1.put hBs (by have := Hn.out; unfold maxLen; omega) (wfN (i := i) (by omega)) (.bool true)
          have h4' : RnA w.heap.size mb (n + (j + 1)) (gO (putAll out (next.take (j + 1)))) (pxJ (.slice Ab Q cb) (belowK L next j) :: (X0 ++ runX ob mb qb (lqV a k b M c kc nb bc live))) w4 := by
            refine h4.ext fun k => ?_
            refine (gO_put _ i k).trans ?_
            rw [putAll_next hx]
          have hbw4 := HX.out.2.trans hb4
          obtain ⟨yq, -⟩ := bxT_at (h4'.mem (o := bxT 63 qb (lqV a k b M c kc nb bc live)) (by simp))
          have yq0 := yq 0 _ rfl
          obtain ⟨lb, loff, l, A', C', ea, -, hl, -, -, l2, -, hsl⟩ := (HPc.out w4 hbw4).lp.at_ (j := i) hi
          subst ea
          have hpar : parN L i = l.par := by unfold parN; rw [List.getD_eq_getElem?_getD, hl]; rfl
          have hbk := belowK_next (lp := L) hx
          rw [Int.toNat_natCast, hpar] at hbk
          have hln := belowK_len HG.out HI.out.nx (j + 1) (by have := HN.out; omega)
          have hln0 : (j + 1) * L.length ≤ 2600 * 2600 := Nat.mul_le_mul (by omega) (by have := HMe.out; omega)
          rw [hbk, List.length_append] at hln
          obtain ⟨A2, c2, w5, hr9, h6, hb6⟩ := RnA.apps (a := Ab) (c := cb) (l := belowK L next j) (by rw [← HQ.out]; exact h4') hbw4.size (by omega) A' C' l.par (by omega) (hsl.more hbw4.size) (fun e => by
            subst e
            by_cases h0 : l.par = []
            · rw [h0]; rfl
            · obtain ⟨b', off', e', -⟩ := hsl h0
              cases e')
          rw [← HQ.out] at hr9 h6
          obtain ⟨P, hP⟩ : ∃ P, P = l.par.length := ⟨_, rfl⟩
          have HQ2 : Hid (Q + P = (belowK L next (j + 1)).length) := by show _ = _; rw [hbk, List.length_append, ← HQ.out, hP]
          rw [← hbk] at h6
          rw [← hP] at hr9 l2 h6
          have HX5 := Lib.hid (And.intro h6 (hbw4.trans hb6))
          have hiI : (i : Int) < (M : Int) := by omega
          have hi0 : (0 : Int) ≤ (i : Int) := by omega
          have hjI : (j : Int) < (N : Int) := by omega
          have hj0 : (0 : Int) ≤ (j : Int) := by omega
          have HJ : Hid (j + 1 ≤ N ∧ j < N) := by show _ ∧ _; omega
          clear HX HQ h4 h4' hb4 hb6 h6 hbw4 yq hl hsl hpar hbk hln hln0 hP hx y hBs
          go_wp2_with (at_builtin; refine wpList_append_run _ rfl _ _ _ _ rfl _ _ (by rfl) (by rfl) hr9 ?_)
          go_roundw
          case rel => exact ⟨j + 1, _, _, _, _, HJ.out.1, by go_num, rfl, rfl, HQ2.out, HX5.out⟩
          case measure => simp [intOf]; have := HJ.out; omega
        case neg =>
          have d1 : decide ((j : Int) < (N : Int)) = false := decide_eq_false (by omega)
          have d1' : decide (j < N) = false := decide_eq_false hjN
          have hjn : j = next.length := by have := HN.out; omega
          have hX := HX.out
          rw [hjn, List.take_length] at hX
          have HQe : Hid (Q = (belowK L next next.length).length) := by have h := HQ.out; rw [hjn] at h; exact h
          have hln := belowK_len HG.out HI.out.nx next.length (Nat.le_refl _)
          have hln0 : next.length * L.length ≤ 2600 * 2600 := Nat.mul_le_mul (by have := HN.out; omega) (by have := HMe.out; omega)
          have HSo := Lib.hid (hX.1.sort HQe.out.symm (by rw [HQe.out]; omega) hBs)
          have HB3 := Lib.hid hX.2
          have HQl : Hid (Q ≤ 1000000000) := by show _ ≤ _; rw [HQe.out]; omega
          clear hX HX HQ hjn hln hln0 hBs
          go_upto_region 11 with fail
          clear d1 d1'
          go_upto_region 13 with (go_at_call 55; refine HSo.out.mono ?_; rintro e w5 ⟨rfl, h5, hb5⟩)
          have hb5' := HB3.out.trans hb5
          have HCo := Lib.hid (h5.compact (by rw [sortZ_len]; exact HQe.out.symm) HQl.out hb5'.size)
          have HB5 := Lib.hid hb5'
          clear h5 hb5 hb5' HSo HB3
          go_upto_region 14 with (go_at_call 57; refine HCo.out.mono ?_; rintro e w6 ⟨Ac, cc, rfl, h6, hb6⟩)
          have HX7 : Hid (RnA w.heap.size mb (n + next.length) (gO (putAll out next)) (pxJ (.slice Ac (belowC L next).length cc) (belowC L next) :: (X0 ++ runX ob mb qb (lqV a k b M c kc nb bc live))) w6 ∧ Below w.heap.size w w6) := ⟨h6, HB5.out.trans hb6⟩
          obtain ⟨hbl, hcl⟩ := belowC_len HG.out HRs.out HI.out
          have HBl := Lib.hid hbl
          have HStep := Lib.hid (run_step HG.out HD.out HRs.out HI.out HRg.out)
          have HBrk := Lib.hid (run_brk HG.out HD.out HRs.out HI.out)
          have hn2 : n + next.length + 2700 * (gk - 1) ≤ 40000 := by have := Hn.out; have := HN.out; have := HRg.out; omega
          have Hn2 := Lib.hid hn2
          have hg1 : gk - 1 < gk := by have := HRg.out; omega
          have HCe : Hid (Value.slice Ac (Lib.compact (sortZ (belowK L next next.length))).length cc = .slice Ac (belowC L next).length cc) := rfl
          rw [show (Lib.compact (sortZ (belowK L next next.length))).length = (belowC L next).length from rfl]
          obtain ⟨C, hC⟩ : ∃ C, C = belowC L next := ⟨_, rfl⟩
          obtain ⟨O2, hO2⟩ : ∃ O2, O2 = putAll out next := ⟨_, rfl⟩
          obtain ⟨n2, hn2e⟩ : ∃ n2, n2 = n + next.length := ⟨_, rfl⟩
          rw [← hC] at HX7 HBl HStep hcl ⊢
          rw [← hO2] at HX7 HStep HBrk
          rw [← hn2e] at HX7 Hn2
          obtain ⟨CL, hCL⟩ : ∃ CL, CL = C.length := ⟨_, rfl⟩
          have HCl := Lib.hid hCL
          rw [← hCL] at HX7 hcl ⊢
          have hcM : CL ≤ 2600 := by have := HMe.out; omega
          clear h6 hb6 HCo HB5 HQe HQl hbl hcl hn2 HCe hC hO2 hn2e hCL
          clear HRn HN HI Hn HRs HRg hN0 hjN hj hNM
          have HX8 : Hid (RnA w.heap.size mb n2 (gO O2) (pxJ (.slice none 0 0) (nextK L O2 C 0) :: pxJ (.slice Ac CL cc) C :: (X0 ++ runX ob mb qb (lqV a k b M c kc nb bc live))) w6 ∧ Below w.heap.size w w6) := ⟨HX7.out.1.nil, HX7.out.2⟩
          clear HX7
          go_wp2
          go_loopw [6, 11, 39] (fun s6 s11 s39 wr => ∃ (j : Nat) (An : Option Addr) (q cn : Nat) (v11 : Value), j ≤ CL ∧ s39 = .int .i64 (j : Int) ∧ s6 = .slice An q cn ∧ v11 = s11 ∧ Hid (q = (nextK L O2 C j).length) ∧ Hid (r ≤ 1 → j = 0) ∧ Hid (RnA w.heap.size mb n2 (gO O2) (pxJ (.slice An q cn) (nextK L O2 C j) :: pxJ (.slice Ac CL cc) C :: (X0 ++ runX ob mb qb (lqV a k b M c kc nb bc live))) wr ∧ Below w.heap.size w wr)) (fun _ _ s39 _ => CL - (intOf s39).toNat)
          case atStart => exact ⟨0, none, 0, 0, _, Nat.zero_le _, rfl, rfl, rfl, rfl, fun _ => rfl, HX8.out⟩
          case round =>
            obtain ⟨j, An, q, cn, v11', hj, rfl, rfl, rfl, Hq, Hj0, HX⟩ := hrel
            clear HX8
            obtain ⟨W6, hW6⟩ : ∃ x : World, x = wr := ⟨_, rfl⟩
            rw [← hW6] at HX ⊢
            clear hW6
            have hBs : w.heap.size ≤ W6.heap.size := HX.out.2.size
            by_cases hjC : j < CL
            case neg =>
              have d1 : decide ((j : Int) < (CL : Int)) = false := decide_eq_false (by omega)
              have d1' : decide (j < CL) = false := decide_eq_false hjC
              have hjc : j = C.length := by have := HCl.out; omega
              have hX := HX.out
              have hq := Hq.out
              rw [hjc] at hX hq
              have HQ : Hid (RunI L drop K O2 (nextK L O2 C C.length) (gk - 1)) := HStep.out fun h => by
                have := Hj0.out h
                exact List.length_eq_zero_iff.1 (by omega)
              have HQ1 : Hid (RnA w.heap.size mb n2 (gO O2) ([pxJ (.slice An q cn) (nextK L O2 C C.length)] ++ runX ob mb qb (lqV a k b M c kc nb bc live)) W6 ∧ Below w.heap.size w W6) :=
                ⟨hX.1.lift (List.Sublist.cons_cons _ ((List.sublist_append_right X0 _).trans (List.sublist_cons_self _ _))), hX.2⟩
              have HQ2 := Lib.hid hq
              clear hX hq HX hjc Hq Hj0 hBs
              go_wp2
              go_roundg (gk - 1)
              case measure => exact hg1
              case rel => exact ⟨nextK L O2 C C.length, An, cn, q, [pxJ (.slice An q cn) (nextK L O2 C C.length)], O2, n2, _, _, _, rfl, rfl, rfl, rfl, HQ2.out, HQ1.out, Hn2.out, (fun W n' G' X1 h hb => pxJ_lies (B := w.heap.size) (n := q) (c := cn) (h.mem (List.mem_append_right _ (List.mem_append_left _ List.mem_cons_self)))), HQ.out⟩
            case pos =>
              have d1 : decide ((j : Int) < (CL : Int)) = true := decide_eq_true (by omega)
              have d1' : decide (j < CL) = true := decide_eq_true hjC
              have hx : C[j]? = some (C[j]'(by have := HCl.out; omega)) := List.getElem?_eq_getElem _
              obtain ⟨x, hxe⟩ : ∃ x, x = C[j]'(by have := HCl.out; omega) := ⟨_, rfl⟩
              rw [← hxe] at hx
              obtain ⟨i, e, hi, hir⟩ := HBl.out x (List.mem_of_getElem? hx)
              subst e
              obtain ⟨cg, cc', ev, x0⟩ := pxJ_at (HX.out.1.mem (o := pxJ (.slice Ac CL cc) C) (by simp)) hx HCl.out.symm
              injection ev with e1 e2 e3
              subst e1
              subst e3
              clear e2
              have hiM : i < M := by have := HMe.out; omega
              obtain ⟨yq, -⟩ := bxT_at (HX.out.1.mem (o := bxT 63 qb (lqV a k b M c kc nb bc live)) (by simp))
              have yq0 := yq 0 _ rfl
              have yq1 := yq 1 _ rfl
              obtain ⟨lb, loff, l, A', C', ea, -, hl, l0, -, -, -, -⟩ := (HPc.out W6 HX.out.2).lp.at_ (j := i) hi
              subst ea
              have hrow : rowN L i = l.row := by unfold rowN; rw [List.getD_eq_getElem?_getD, hl]; rfl
              have hiI : (i : Int) < (M : Int) := by omega
              have hi0 : (0 : Int) ≤ (i : Int) := by omega
              have hjI : (j : Int) < (CL : Int) := by omega
              have hj0 : (0 : Int) ≤ (j : Int) := by omega
              by_cases hr1 : r = 1
              case pos =>
                have hr0 : l.row = 0 := by omega
                have c0 : (l.row == 0) = true := by rw [hr0]; rfl
                have ho := HBrk.out hr1
                have hX := HX.out
                rw [ho] at hX
                obtain ⟨y, -⟩ := bxT_at (hX.1.mem (o := bxT 71 ob [.map (some mb)]) (by simp))
                have y0 := y 0 _ rfl
                have HQ : Hid (RunPost L drop w (.returned (.map (some mb))) W6) := ⟨mb, n2, rfl, hX.1.mp, hX.1.lo, hX.2⟩
                clear hX HX y ho hr0 hr1 hx hxe yq hl hrow hir hi hBs
                go_wp2
                (try rw [Exit.noGoto_ret])
                go_ret
                exact HQ.out
              case neg =>
                have hrn := (HG.out.row i hi).1
                have hr2 : 1 < r := by omega
                have hr0 : l.row ≠ 0 := by omega
                have c0 : (l.row == 0) = false := beq_eq_false_iff_ne.2 hr0
                obtain ⟨kb, koff, ek, -, hrows⟩ := (HPc.out W6 HX.out.2).kd (fun e => by
                  have := kidsA_len L
                  rw [e] at this
                  simp at this
                  omega)
                subst ek
                obtain ⟨R, hRe⟩ : ∃ R, R = (kidsN L i).map fun q : Nat => (q : Int) := ⟨_, rfl⟩
                have hkr := kidsA_at hi
                rw [← hRe] at hkr
                obtain ⟨A2, C2, k0, -, hks⟩ := hrows i R hkr
                have hRl : R.length ≤ 2600 := by
                  rw [hRe, List.length_map]
                  unfold kidsN
                  exact Nat.le_trans (List.length_filter_le _ _) (by rw [List.length_range]; have := HMe.out; omega)
                have hRm : ∀ x ∈ R, ∃ q : Nat, x = (q : Int) ∧ q ≤ 1000000 := fun x hx => by
                  rw [hRe] at hx
                  obtain ⟨q, hq, rfl⟩ := List.mem_map.1 hx
                  have := (mem_kids.1 hq).1
                  have := HMe.out
                  exact ⟨q, rfl, by omega⟩
                obtain ⟨y, -⟩ := bxT_at (HX.out.1.mem (o := bxT 71 ob [.map (some mb)]) (by simp))
                have y0 := y 0 _ rfl
                have hHC := contI_any 58 #[.pointer (some ⟨ob, 0, none⟩)] (enters_of Try.func58 (by kernel_rfl) rfl) (fun x => !O2 x.toNat) A2 C2 R W6 (hks.more hBs) (by omega) (fun x hx w' hb => by
                  obtain ⟨q, rfl, hq⟩ := hRm x hx
                  exact pnot_any ob mb n2 q hq O2 w' ((bcell hb (lt_of_cell y0) _).trans y0) (HX.out.1.mp.below hb HX.out.1.mp.lt))
                obtain ⟨z, hz⟩ : ∃ z, z = (kidsN L i).all O2 := ⟨_, rfl⟩
                have hany : R.any (fun x => !O2 x.toNat) = !z := by
                  rw [hRe, hz, List.any_map, List.not_all_eq_any_not]
                  congr 1
                rw [hany] at hHC
                have HC := Lib.hid hHC
                obtain ⟨RL, hRL⟩ : ∃ RL, RL = R.length := ⟨_, rfl⟩
                rw [← hRL] at HC k0
                have HN1 : Hid (z = true → nextK L O2 C (j + 1) = nextK L O2 C j ++ [(i : Int)]) := fun h => nextK_yes hx (by rw [Int.toNat_natCast, ← hz]; exact h)
                have HN2 : Hid (z = false → nextK L O2 C (j + 1) = nextK L O2 C j) := fun h => nextK_no hx (by rw [Int.toNat_natCast, ← hz]; exact h)
                have HNl : Hid ((nextK L O2 C j).length ≤ 2600) := by
                  have h1 := nextK_len L O2 C j
                  have h2 := HCl.out
                  show _ ≤ _
                  omega
                have HJ : Hid ((j + 1 ≤ CL ∧ j < CL) ∧ 1 < r) := by show (_ ∧ _) ∧ _; omega
                have HB6 := Lib.hid (show w.heap.size ≤ W6.heap.size from hBs)
                have hmf := hmf_any
                clear hHC hany hRL hRe hkr hks hRl hRm hrows hl hrow hir hrn hx hxe hz hr0 hr1 yq y y0 hBs Hj0
                cases z with
                | false =>
                  go_wp2_with (go_at_call 37; refine HC.out.mono ?_; rintro e w7 ⟨rfl, hb7⟩)
                  have HQ : Hid (RnA w.heap.size mb n2 (gO O2) (pxJ (.slice An q cn) (nextK L O2 C (j + 1)) :: pxJ (.slice (some ⟨cg, 0, none⟩) CL cc) C :: (X0 ++ runX ob mb qb (lqV (some ⟨lb, loff, none⟩) (some ⟨kb, koff, none⟩) b M c kc nb bc live))) w7 ∧ Below w.heap.size w w7) := by
                    rw [HN2.out (by first | trivial | rfl)]
                    exact ⟨HX.out.1.to hb7, HX.out.2.trans (hb7.mono HB6.out)⟩
                  have HQl : Hid (q = (nextK L O2 C (j + 1)).length) := by show _ = _; rw [HN2.out (by first | trivial | rfl)]; exact Hq.out
                  clear hb7 HX Hq
                  go_roundw
                  case rel => exact ⟨j + 1, _, _, _, _, HJ.out.1.1, by go_num, rfl, rfl, HQl.out, (fun h => by have := HJ.out.2; omega), HQ.out⟩
                  case measure => simp [intOf]; have := HJ.out.1; omega
                | true =>
                  go_upto_region 18 with (go_at_call 37; refine HC.out.mono ?_; rintro e w7 ⟨rfl, hb7⟩)
                  have hb7' := HX.out.2.trans (hb7.mono HB6.out)
                  obtain ⟨A3, c3, w8, hr9, h8, hb8⟩ := RnA.push (a := An) (c := cn) (l := nextK L O2 C j) (by rw [← Hq.out]; exact HX.out.1.to hb7) hb7'.size (by have := HNl.out; omega) (i : Int)
                  rw [← Hq.out] at hr9 h8
                  have HQ : Hid (RnA w.heap.size mb n2 (gO O2) (pxJ (.slice A3 (q + 1) c3) (nextK L O2 C (j + 1)) :: pxJ (.slice (some ⟨cg, 0, none⟩) CL cc) C :: (X0 ++ runX ob mb qb (lqV (some ⟨lb, loff, none⟩) (some ⟨kb, koff, none⟩) b M c kc nb bc live))) w8 ∧ Below w.heap.size w w8) := by
                    rw [HN1.out (by first | trivial | rfl)]
                    exact ⟨h8, hb7'.trans hb8⟩
                  have HQl : Hid (q + 1 = (nextK L O2 C (j + 1)).length) := by show _ = _; rw [HN1.out (by first | trivial | rfl), List.length_append, ← Hq.out]; rfl
                  clear hb7 HX Hq hb7' h8 hb8
                  go_wp2_with (at_builtin; refine wpList_append_run _ rfl _ _ _ _ rfl _ _ (by rfl) (by rfl) hr9 ?_)
                  go_roundw
                  case rel => exact ⟨j + 1, _, _, _, _, HJ.out.1.1, by go_num, rfl, rfl, HQl.out, (fun h => by have := HJ.out.2; omega), HQ.out⟩
                  case measure => simp [intOf]; have := HJ.out.1; omega
end Go.Proofs.Ytbibndpkcilblaa
