/- Layer 28, the program: Run. Layer 28, the program: Stops. -/
import Derived.Test.YtbibndpkcilblaaKRu
namespace Go.Proofs.Ytbibndpkcilblaa
open Go.RowKit Go.Shelf Go.Sort
set_option maxRecDepth 100000

theorem sort_range {L : List Int} {N : Nat} {p : Nat → Bool} (hn : L.Nodup) (hm : ∀ x, x ∈ L ↔ ∃ k : Nat, k < N ∧ x = (k : Int) ∧ p k = true) : sortZ L = ((List.range N).filter p).map fun k : Nat => (k : Int) := by
  have tr : ∀ a b c : Int, decide (a ≤ b) = true → decide (b ≤ c) = true → decide (a ≤ c) = true := fun a b c h1 h2 => by simp only [decide_eq_true_eq] at *; omega
  have tt : ∀ a b : Int, (decide (a ≤ b) || decide (b ≤ a)) = true := fun a b => by simp only [Bool.or_eq_true, decide_eq_true_eq]; omega
  have hR : (((List.range N).filter p).map fun k : Nat => (k : Int)).Nodup := by
    rw [List.Nodup, List.pairwise_map]
    exact (List.nodup_range.filter p).imp fun h e => h (by omega)
  refine List.Perm.eq_of_pairwise (le := fun a b => decide (a ≤ b) = true) (fun a b _ _ h1 h2 => ?_) (List.pairwise_mergeSort tr tt L) ?_ ?_
  · simp only [decide_eq_true_eq] at h1 h2; omega
  · rw [List.pairwise_map]
    exact (List.pairwise_lt_range.filter p).imp fun h => by simp only [decide_eq_true_eq]; omega
  · refine (List.mergeSort_perm L _).trans ((List.perm_ext_iff_of_nodup hn hR).2 fun x => ?_)
    rw [hm, List.mem_map]
    constructor
    · rintro ⟨k, h1, rfl, h2⟩
      exact ⟨k, List.mem_filter.2 ⟨List.mem_range.2 h1, h2⟩, rfl⟩
    · rintro ⟨k, h1, rfl⟩
      obtain ⟨h2, h3⟩ := List.mem_filter.1 h1
      exact ⟨k, List.mem_range.1 h2, rfl, h3⟩
/-- The numbers below a bound that are marked. -/
def listN (M : Nat) (F : Nat → Bool) : List Int := ((List.range M).filter F).map fun i : Nat => (i : Int)
theorem listN_congr {M : Nat} {F F' : Nat → Bool} (h : ∀ i, i < M → F i = F' i) : listN M F = listN M F' := by
  unfold listN
  congr 1
  exact List.filter_congr fun i hi => h i (List.mem_range.1 hi)
theorem listN_mem {M : Nat} {F : Nat → Bool} {x : Int} : x ∈ listN M F ↔ ∃ i : Nat, i < M ∧ x = (i : Int) ∧ F i = true := by
  unfold listN
  rw [List.mem_map]
  constructor
  · rintro ⟨i, hi, rfl⟩
    obtain ⟨h1, h2⟩ := List.mem_filter.1 hi
    exact ⟨i, List.mem_range.1 h1, rfl, h2⟩
  · rintro ⟨i, h1, rfl, h2⟩
    exact ⟨i, List.mem_filter.2 ⟨List.mem_range.2 h1, h2⟩, rfl⟩
theorem listN_len (M : Nat) (F : Nat → Bool) : (listN M F).length ≤ M := by
  unfold listN
  rw [List.length_map]
  exact Nat.le_trans (List.length_filter_le _ _) (by rw [List.length_range]; exact Nat.le_refl _)
theorem keys_sorted {lp : List Lp} {F : Nat → Bool} {xs : List Int} (hF : ∀ i, lp.length ≤ i → F i = false) (h : KyOf (gO F) xs) : sortZ xs = listN lp.length F := by
  refine sort_range h.1 fun x => ?_
  rw [h.2]
  unfold gO
  constructor
  · intro hx
    by_cases hc : 0 ≤ x ∧ F x.toNat = true
    · refine ⟨x.toNat, ?_, by omega, hc.2⟩
      by_cases hl : lp.length ≤ x.toNat
      · rw [hF _ hl] at hc; exact absurd hc.2 (by decide)
      · omega
    · rw [if_neg hc] at hx; cases hx
  · rintro ⟨k, h1, rfl, h2⟩
    rw [if_pos ⟨by omega, by rw [Int.toNat_natCast]; exact h2⟩]; rfl
theorem keys_few {lp : List Lp} {F : Nat → Bool} (hF : ∀ i, lp.length ≤ i → F i = false) (L : List Int) (hn : L.Nodup) (hk : ∀ k ∈ L, ((gO F) k).isSome = true) : L.length ≤ lp.length := by
  have hup : (sortZ L).Pairwise (· < ·) := by
    have h1 : (sortZ L).Pairwise (· ≠ ·) := (List.mergeSort_perm L fun x y => decide (x ≤ y)).nodup_iff.2 hn
    exact (sort_le _).imp₂ (fun a b h1 h2 => by omega) h1
  have h3 := up_len (l := sortZ L) (a := 0) (b := (lp.length : Int)) hup fun x hx => by
    have h := hk x (sortZ_mem.1 hx)
    unfold gO at h
    by_cases hc : 0 ≤ x ∧ F x.toNat = true
    · refine ⟨hc.1, ?_⟩
      by_cases hl : lp.length ≤ x.toNat
      · rw [hF _ hl] at hc; exact absurd hc.2 (by decide)
      · omega
    · rw [if_neg hc] at h; cases h
  rw [sortZ_len] at h3
  omega
theorem runL_hi (lp : List Lp) (drop : List Int) : ∀ i, lp.length ≤ i → runL lp drop i = false := fun i hi => by
  unfold runL
  rw [decide_eq_false (by omega)]; rfl
theorem runL_lo {lp : List Lp} {drop : List Int} {i : Nat} (hi : i < lp.length) : runL lp drop i = runF lp drop i := by
  unfold runL
  rw [decide_eq_true hi]; rfl
theorem PcAt.more {W : World} {B B' : Nat} {a k b : Option Addr} {L : List Lp} {K : List (List Int)} {bd : List Int} (h : PcAt W B a k b L K bd) (hB : B ≤ B') : PcAt W B' a k b L K bd := ⟨h.lp.more hB, h.kd.more hB, h.bd.more hB⟩
theorem PcAt.to {W W' : World} {a k b : Option Addr} {L : List Lp} {K : List (List Int)} {bd : List Int} (h : PcAt W W.heap.size a k b L K bd) (hb : Below W.heap.size W W') : PcAt W' W'.heap.size a k b L K bd := (h.below hb).more hb.size
/-- The front of a function that reads a chart: its box, the call. -/
structure LfF (start : Int) (A : Option Addr) (c : Nat) (p : List RowC) (cb : Nat) (w W : World) : Prop where
  cb0 : W.cell? ⟨cb, 0, none⟩ = some (.int .i64 start)
  cb1 : W.cell? ⟨cb, 1, none⟩ = some (.slice A p.length c)
  err : chartE start p ≠ 0 → Calls Try.prog 30 #[.agg #[.int .i64 start, .slice A p.length c]] W fun e w' => LqErr (chartE start p) W e w'
  ok : chartE start p = 0 → Calls Try.prog 30 #[.agg #[.int .i64 start, .slice A p.length c]] W fun e w' => LqOk (workX start p) ((workX start p).next : Int) W e w'
  bel : Below w.heap.size w W
theorem lf_front (start : Int) (A : Option Addr) (c : Nat) (p : List RowC) (hw : RowsWf p) (h12 : chartE start p = 0 → p.length ≤ 12) (w : World) (hs : SlC w w.heap.size A p) : LfF start A c p w.heap.size w (w.alloc (.cells #[.int .i64 start, .slice A p.length c] 24)) := by
  have hb := al_t w (.cells #[.int .i64 start, .slice A p.length c] 24)
  obtain ⟨g1, -⟩ := bxT_at (bxT_new w 24 [.int .i64 start, .slice A p.length c])
  exact ⟨g1 0 _ rfl, g1 1 _ rfl, fun he => lof_err start A c p hw he _ ((hs.below hb).more hb.size), fun he => lof_ok start A c p hw he (h12 he) _ ((hs.below hb).more hb.size), hb⟩
/-- Behind the call: the piece in its box. -/
structure LdB (qb : Nat) (a k b : Option Addr) (c kc bc : Nat) (t : Pw) (w W : World) : Prop where
  pc : PcAt W W.heap.size a k b t.lp (kidsA t.lp) t.bound
  c0 : W.cell? ⟨qb, 0, none⟩ = some (.slice a t.lp.length c)
  c1 : W.cell? ⟨qb, 1, none⟩ = some (.slice k t.lp.length kc)
  c2 : W.cell? ⟨qb, 2, none⟩ = some (.slice b t.bound.length bc)
  c3 : W.cell? ⟨qb, 3, none⟩ = some (.int .i64 (t.next : Int))
  bel : Below w.heap.size w W
theorem LdB.to {qb : Nat} {a k b : Option Addr} {c kc bc : Nat} {t : Pw} {w W W' : World} (h : LdB qb a k b c kc bc t w W) (hb : Below W.heap.size W W') : LdB qb a k b c kc bc t w W' :=
  ⟨h.pc.to hb, (bcell hb (lt_of_cell h.c0) _).trans h.c0, (bcell hb (lt_of_cell h.c1) _).trans h.c1, (bcell hb (lt_of_cell h.c2) _).trans h.c2, (bcell hb (lt_of_cell h.c3) _).trans h.c3, h.bel.trans (hb.mono h.bel.size)⟩
theorem LfF.behind {start : Int} {A : Option Addr} {c cb : Nat} {p : List RowC} {w W W' : World} {t : Pw} {a k b : Option Addr} {ca kc bc : Nat} (h : LfF start A c p cb w W) (hp : PcAt W' W'.heap.size a k b t.lp (kidsA t.lp) t.bound) (hb : Below W.heap.size W W') :
    LdB W'.heap.size a k b ca kc bc t w (W'.alloc (.cells #[.slice a t.lp.length ca, .slice k t.lp.length kc, .slice b t.bound.length bc, .int .i64 (t.next : Int)] 63)) := by
  have hal := al_t W' (.cells #[.slice a t.lp.length ca, .slice k t.lp.length kc, .slice b t.bound.length bc, .int .i64 (t.next : Int)] 63)
  obtain ⟨g1, -⟩ := bxT_at (bxT_new W' 63 [.slice a t.lp.length ca, .slice k t.lp.length kc, .slice b t.bound.length bc, .int .i64 (t.next : Int)])
  exact ⟨hp.to hal, g1 0 _ rfl, g1 1 _ rfl, g1 2 _ rfl, g1 3 _ rfl, h.bel.trans ((hb.trans (hal.mono hb.size)).mono h.bel.size)⟩
/-- What Run answers: the error, the list. -/
def runS (start : Int) (p : List RowC) (drop : List Int) : Int × List Int :=
  if chartE start p ≠ 0 then (chartE start p, []) else if dropB (workX start p).lp.length (workX start p).next drop = false then (2, []) else (0, listN (workX start p).lp.length (runF (workX start p).lp drop))
set_option maxHeartbeats 2000000 in
theorem Run_err (start : Int) (A : Option Addr) (c : Nat) (p : List RowC) (hw : RowsWf p) (he : chartE start p ≠ 0) (da : Option Addr) (dn dc : Nat) (w : World) (hs : SlC w w.heap.size A p) :
    Calls Try.prog 10 #[.agg #[.int .i64 start, .slice A p.length c], .slice da dn dc] w fun e w' => BoPost (chartE start p) [] w e w' := by
  have hF := lf_front start A c p hw (fun h => absurd h he) w hs
  have c0 := hF.cb0
  have c1 := hF.cb1
  have HC := Lib.hid (hF.err he)
  have HB0 := Lib.hid hF.bel
  obtain ⟨x, hx⟩ : ∃ x, x = chartE start p := ⟨_, rfl⟩
  rw [← hx] at HC he ⊢
  have hne : (x != 0) = true := by simp [he]
  clear hF hs hw hx he
  go_enter Try.func10, Try.ntmps10
  go_wp2_with (go_at_call 30; refine HC.out.mono ?_; rintro e w2 ⟨rfl, hb⟩; have HB := Lib.hid (HB0.out.trans ((hb.trans ((al_t w2 (.cells #[nilV, nilV, nilV, .int .i64 0] 63)).mono hb.size)).mono HB0.out.size)); clear hb)
  go_ret2
  exact ⟨_, rfl, World.ownsRow_nil _ _ _ _, HB.out⟩
set_option maxHeartbeats 4000000 in
theorem Run_ok (start : Int) (A : Option Addr) (c : Nat) (p : List RowC) (hw : RowsWf p) (h12 : p.length ≤ 12) (he : chartE start p = 0) (da : Option Addr) (dc : Nat) (drop : List Int) (hD : drop.length ≤ 300) (w : World) (hs : SlC w w.heap.size A p) (hd : SlI w w.heap.size da drop) :
    Calls Try.prog 10 #[.agg #[.int .i64 start, .slice A p.length c], .slice da drop.length dc] w fun e w' => BoPost (runS start p drop).1 (runS start p drop).2 w e w' := by
  have hF := lf_front start A c p hw (fun _ => h12) w hs
  have c0 := hF.cb0
  have c1 := hF.cb1
  have hC := hF.ok he
  have hG := chart_grd he h12
  have HR : Hid (runS start p drop = if dropB (workX start p).lp.length (workX start p).next drop = false then (2, []) else (0, listN (workX start p).lp.length (runF (workX start p).lp drop))) := by
    show _ = _
    unfold runS
    rw [if_neg (by rw [he]; decide)]
  have HF := Lib.hid hF
  have HSd : Hid (∀ W, Below w.heap.size w W → SlI W W.heap.size da drop) := fun W hb => (hd.below hb).more hb.size
  obtain ⟨t, ht⟩ : ∃ t, t = workX start p := ⟨_, rfl⟩
  rw [← ht] at hC hG HR
  have HC := Lib.hid hC
  have HG := Lib.hid hG
  obtain ⟨M, hM⟩ : ∃ M, M = t.lp.length := ⟨_, rfl⟩
  have HMe := Lib.hid hM
  obtain ⟨D, hDe⟩ : ∃ D, D = drop.length := ⟨_, rfl⟩
  have HDe := Lib.hid hDe
  rw [← hDe] at hD ⊢
  clear hF hs hw he hC hG ht hd hDe hM
  go_enter Try.func10, Try.ntmps10
  go_upto_region 2 with (go_at_call 30; refine HC.out.mono ?_; rintro e w2 ⟨a, ca, k, kc, b, bc, rfl, hp, hb⟩; have HB := Lib.hid (HF.out.behind (ca := ca) (kc := kc) (bc := bc) hp hb); clear hp hb)
  obtain ⟨qb, hqb⟩ : ∃ qb, qb = w2.heap.size := ⟨_, rfl⟩
  refine abs_world (Q := fun W => Code.wp _ _ _ _ W) (F := fun W => LdB qb a k b ca kc bc t w W) _ (by rw [hqb]; exact HB.out) ?_
  rw [← hqb]
  clear hqb HB HC c0 c1
  clear w2
  rintro W h
  have HCk : Hid (BlPost = BlPost) := rfl
  have HCh := Lib.hid (pcheck_any t.lp.length t.next a k b ca kc t.bound.length bc da dc drop (by have := HDe.out; omega) W (HSd.out W h.bel))
  have HL := Lib.hid h
  have y0 := h.c0
  have y1 := h.c1
  have y2 := h.c2
  have y3 := h.c3
  rw [← HDe.out] at HCh
  obtain ⟨z, hz⟩ : ∃ z, z = dropB t.lp.length t.next drop := ⟨_, rfl⟩
  rw [← hz] at HCh HR
  have HZ := Lib.hid hz
  clear h hz HCk
  cases z with
  | false =>
    rw [if_pos rfl] at HR
    go_wp2_with (go_at_call 31; refine HCh.out.mono ?_; rintro e w3 ⟨rfl, hb3⟩)
    have HB3 := Lib.hid (HL.out.to hb3).bel
    clear hb3
    go_ret2
    rw [HR.out]
    exact ⟨_, rfl, World.ownsRow_nil _ _ _ _, HB3.out⟩
  | true =>
    rw [if_neg (by decide)] at HR
    go_upto_region 6 with (go_at_call 31; refine HCh.out.mono ?_; rintro e w3 ⟨rfl, hb3⟩)
    have h3 := HL.out.to hb3
    clear hb3 HL y0 y1 y2 y3 HCh
    clear W
    have hd := dropB_ok (lp := t.lp) HZ.out.symm
    have hGn := grd_n HG.out.g
    have HRu := Lib.hid (prun_any t.lp t.bound p.length t.next hGn HG.out.ll h12 a k b ca kc t.bound.length bc (t.next : Int) t.bound da dc drop hd w3 h3.pc (HSd.out w3 h3.bel))
    rw [← HDe.out] at HRu
    have HL := Lib.hid h3
    have y0 := h3.c0
    have y1 := h3.c1
    have y2 := h3.c2
    have y3 := h3.c3
    clear h3 hd hGn
    go_wp2_with fail
    refine HRu.out.mono ?_
    rintro e w4 ⟨mb, nn, rfl, hm, hlo, hb4⟩
    have hb4' := HL.out.bel.trans (hb4.mono HL.out.bel.size)
    have hal := al_t w4 (.cells #[.map (some mb)] 71)
    have HS := Lib.hid (sortedKeys_any (Bs := w4.heap.size) (hm.below hal hm.lt) (by simp) (cell_new rfl rfl rfl) (N := t.lp.length) (by have := HG.out.ll; omega) (keys_few (runL_hi t.lp drop)))
    have HB4 := Lib.hid (hb4'.trans (hal.mono hb4'.size))
    clear hm hlo hb4 hb4' hal
    clear y0 y1 y2 y3 HRu
    go_wp2_with fail
    refine (keys_any mb w4).mono ?_
    rintro e w5 ⟨rfl, rfl⟩
    go_wp2_with fail
    refine HS.out.mono ?_
    rintro e w6 ⟨v, xs, rfl, hk, ho, hb6⟩
    rw [keys_sorted (runL_hi t.lp drop) hk, listN_congr (fun i hi => runL_lo hi)] at ho
    have HQ := Lib.hid (And.intro ho (HB4.out.trans (hb6.mono HB4.out.size)))
    clear hk ho hb6 HS
    go_wp2
    go_ret2
    rw [HR.out]
    refine ⟨_, rfl, own_more ?_ HB4.out.size, HQ.out.2⟩
    exact HQ.out.1
end Go.Proofs.Ytbibndpkcilblaa
namespace Go.Proofs.Ytbibndpkcilblaa
open Go.RowKit Go.Shelf Go.Sort
set_option maxRecDepth 100000

/-- What stops a drop. -/
def stopF (lp : List Lp) (drop : List Int) : Nat → Bool := fun i => !runF lp drop i && (kidsN lp i).any (runF lp drop)
theorem listN_yes {F : Nat → Bool} {i : Nat} (h : F i = true) : listN (i + 1) F = listN i F ++ [(i : Int)] := by
  unfold listN
  rw [List.range_succ, List.filter_append, List.map_append]
  simp [h]
theorem listN_no {F : Nat → Bool} {i : Nat} (h : F i = false) : listN (i + 1) F = listN i F := by
  unfold listN
  rw [List.range_succ, List.filter_append, List.map_append]
  simp [h]
def stopS (start : Int) (p : List RowC) (drop : List Int) : Int × List Int :=
  if chartE start p ≠ 0 then (chartE start p, []) else if dropB (workX start p).lp.length (workX start p).next drop = false then (2, []) else (0, listN (workX start p).lp.length (stopF (workX start p).lp drop))
set_option maxHeartbeats 1000000 in
theorem pget_any (ob mb n i : Nat) (hi : i ≤ 1000000) (out : Nat → Bool) (w : World) (h0 : w.cell? ⟨ob, 0, none⟩ = some (.map (some mb))) (hm : MapV w mb n (gO out)) :
    Calls Try.prog 38 #[.int .i64 (i : Int), .pointer (some ⟨ob, 0, none⟩)] w fun e w' => e = .returned (.bool (out i)) ∧ Below w.heap.size w w' := by
  have hl := hm.look (T := 71) Try.underlying71 (z := .bool false) (by kernel_rfl) (wfN hi)
  rw [gO_at] at hl
  clear hm
  go_enter Try.func38, Try.ntmps38
  go_wp2
  go_ret
  exact ⟨rfl, Below.refl _ _⟩
set_option maxHeartbeats 2000000 in
theorem Stops_err (start : Int) (A : Option Addr) (c : Nat) (p : List RowC) (hw : RowsWf p) (he : chartE start p ≠ 0) (da : Option Addr) (dn dc : Nat) (w : World) (hs : SlC w w.heap.size A p) :
    Calls Try.prog 12 #[.agg #[.int .i64 start, .slice A p.length c], .slice da dn dc] w fun e w' => BoPost (chartE start p) [] w e w' := by
  have hF := lf_front start A c p hw (fun h => absurd h he) w hs
  have c0 := hF.cb0
  have c1 := hF.cb1
  have HC := Lib.hid (hF.err he)
  have HB0 := Lib.hid hF.bel
  obtain ⟨x, hx⟩ : ∃ x, x = chartE start p := ⟨_, rfl⟩
  rw [← hx] at HC he ⊢
  have hne : (x != 0) = true := by simp [he]
  clear hF hs hw hx he
  go_enter Try.func12, Try.ntmps12
  go_wp2_with (go_at_call 30; refine HC.out.mono ?_; rintro e w2 ⟨rfl, hb⟩; have HB := Lib.hid (HB0.out.trans ((hb.trans ((al_t w2 (.cells #[nilV, nilV, nilV, .int .i64 0] 63)).mono hb.size)).mono HB0.out.size)); clear hb)
  go_ret2
  exact ⟨_, rfl, World.ownsRow_nil _ _ _ _, HB.out⟩
set_option maxHeartbeats 8000000 in
theorem Stops_ok (start : Int) (A : Option Addr) (c : Nat) (p : List RowC) (hw : RowsWf p) (h12 : p.length ≤ 12) (he : chartE start p = 0) (da : Option Addr) (dc : Nat) (drop : List Int) (hD : drop.length ≤ 300) (w : World) (hs : SlC w w.heap.size A p) (hd : SlI w w.heap.size da drop) :
    Calls Try.prog 12 #[.agg #[.int .i64 start, .slice A p.length c], .slice da drop.length dc] w fun e w' => BoPost (stopS start p drop).1 (stopS start p drop).2 w e w' := by
  have hF := lf_front start A c p hw (fun _ => h12) w hs
  have c0 := hF.cb0
  have c1 := hF.cb1
  have hC := hF.ok he
  have hG := chart_grd he h12
  have HR : Hid (stopS start p drop = if dropB (workX start p).lp.length (workX start p).next drop = false then (2, []) else (0, listN (workX start p).lp.length (stopF (workX start p).lp drop))) := by
    show _ = _
    unfold stopS
    rw [if_neg (by rw [he]; decide)]
  have HF := Lib.hid hF
  have HSd : Hid (∀ W, Below w.heap.size w W → SlI W W.heap.size da drop) := fun W hb => (hd.below hb).more hb.size
  obtain ⟨t, ht⟩ : ∃ t, t = workX start p := ⟨_, rfl⟩
  rw [← ht] at hC hG HR
  have HC := Lib.hid hC
  have HG := Lib.hid hG
  obtain ⟨D, hDe⟩ : ∃ D, D = drop.length := ⟨_, rfl⟩
  have HDe := Lib.hid hDe
  rw [← hDe] at hD ⊢
  clear hF hs hw he hC hG ht hd hDe
  go_enter Try.func12, Try.ntmps12
  go_upto_region 2 with (go_at_call 30; refine HC.out.mono ?_; rintro e w2 ⟨a, ca, k, kc, b, bc, rfl, hp, hb⟩; have HB := Lib.hid (HF.out.behind (ca := ca) (kc := kc) (bc := bc) hp hb); clear hp hb)
  obtain ⟨qb, hqb⟩ : ∃ qb, qb = w2.heap.size := ⟨_, rfl⟩
  refine abs_world (Q := fun W => Code.wp _ _ _ _ W) (F := fun W => LdB qb a k b ca kc bc t w W) _ (by rw [hqb]; exact HB.out) ?_
  rw [← hqb]
  clear hqb HB HC c0 c1
  clear w2
  rintro W h
  have HCh := Lib.hid (pcheck_any t.lp.length t.next a k b ca kc t.bound.length bc da dc drop (by have := HDe.out; omega) W (HSd.out W h.bel))
  have HL := Lib.hid h
  have y0 := h.c0
  have y1 := h.c1
  have y2 := h.c2
  have y3 := h.c3
  rw [← HDe.out] at HCh
  obtain ⟨z, hz⟩ : ∃ z, z = dropB t.lp.length t.next drop := ⟨_, rfl⟩
  rw [← hz] at HCh HR
  have HZ := Lib.hid hz
  clear h hz
  cases z with
  | false =>
    rw [if_pos rfl] at HR
    go_wp2_with (go_at_call 31; refine HCh.out.mono ?_; rintro e w3 ⟨rfl, hb3⟩)
    have HB3 := Lib.hid (HL.out.to hb3).bel
    clear hb3
    go_ret2
    rw [HR.out]
    exact ⟨_, rfl, World.ownsRow_nil _ _ _ _, HB3.out⟩
  | true =>
    rw [if_neg (by decide)] at HR
    go_upto_region 6 with (go_at_call 31; refine HCh.out.mono ?_; rintro e w3 ⟨rfl, hb3⟩)
    have h3 := HL.out.to hb3
    clear hb3 HL y0 y1 y2 y3 HCh
    clear W
    have hd := dropB_ok (lp := t.lp) HZ.out.symm
    have hGn := grd_n HG.out.g
    have HRu := Lib.hid (prun_any t.lp t.bound p.length t.next hGn HG.out.ll h12 a k b ca kc t.bound.length bc (t.next : Int) t.bound da dc drop hd w3 h3.pc (HSd.out w3 h3.bel))
    rw [← HDe.out] at HRu
    have HL : Hid (∀ W, Below w3.heap.size w3 W → LdB qb a k b ca kc bc t w W) := fun W hb => h3.to hb
    have y0 := h3.c0
    have y1 := h3.c1
    have y2 := h3.c2
    have y3 := h3.c3
    have HB3 := Lib.hid h3.bel
    clear h3 hd hGn
    go_upto_region 7 with (go_at_call 34; refine HRu.out.mono ?_; rintro e w4 ⟨mb, nn, rfl, hm, hlo, hb4⟩; have hal := al_t w4 (.cells #[.map (some mb)] 71); have h5 : RnA w3.heap.size mb nn (gO (runL t.lp drop)) [bxT 71 w4.heap.size [.map (some mb)]] (w4.alloc (.cells #[.map (some mb)] 71)) := ⟨Owns.add Owns.nil hal hb4.size (bxT_new w4 71 [.map (some mb)]), hm.below hal hm.lt, hlo⟩; have HX5 := Lib.hid (And.intro h5 (hb4.trans (hal.mono hb4.size))); clear hm hlo hb4 hal h5)
    obtain ⟨ob, hob⟩ : ∃ ob, ob = w4.heap.size := ⟨_, rfl⟩
    refine abs_world (Q := fun W => Code.wp _ _ _ _ W) (F := fun W => RnA w3.heap.size mb nn (gO (runL t.lp drop)) (pxJ (.slice none 0 0) (listN 0 (stopF t.lp drop)) :: [bxT 71 ob [.map (some mb)]]) W ∧ Below w3.heap.size w3 W) _ (by rw [hob]; exact ⟨HX5.out.1.nil, HX5.out.2⟩) ?_
    rw [← hob]
    clear hob HX5 HRu y0 y1 y2 y3
    clear w4
    rintro W5 ⟨h5, hb5⟩
    have y1 := (HL.out W5 hb5).c1
    have HX5 := Lib.hid (And.intro h5 hb5)
    obtain ⟨M, hM⟩ : ∃ M, M = t.lp.length := ⟨_, rfl⟩
    have HMe := Lib.hid hM
    have hM26 : M ≤ 2600 := by rw [hM]; exact HG.out.ll
    rw [← hM] at y1 ⊢
    clear h5 hb5 hM
    go_wp2
    go_loopw [9, 10, 11, 30] (fun s9 s10 s11 s30 wr => ∃ (i : Nat) (Ao : Option Addr) (q co : Nat) (v10 v11 : Value), i ≤ M ∧ s30 = .int .i64 (i : Int) ∧ s9 = .slice Ao q co ∧ v10 = s10 ∧ v11 = s11 ∧ Hid (q = (listN i (stopF t.lp drop)).length) ∧ Hid (RnA w3.heap.size mb nn (gO (runL t.lp drop)) (pxJ (.slice Ao q co) (listN i (stopF t.lp drop)) :: [bxT 71 ob [.map (some mb)]]) wr ∧ Below w3.heap.size w3 wr)) (fun _ _ _ s30 _ => M - (intOf s30).toNat)
    case atStart => exact ⟨0, none, 0, 0, _, _, Nat.zero_le _, rfl, rfl, rfl, rfl, rfl, HX5.out⟩
    case round =>
      obtain ⟨i, Ao, q, co, v10, v11, hi, rfl, rfl, rfl, rfl, Hq, HX⟩ := hrel
      clear HX5 y1
      obtain ⟨W6, hW6⟩ : ∃ x : World, x = wr := ⟨_, rfl⟩
      rw [← hW6] at HX ⊢
      clear hW6
      have hBs : w3.heap.size ≤ W6.heap.size := HX.out.2.size
      by_cases hlt : i < M
      case neg =>
        have d1 : decide ((i : Int) < (M : Int)) = false := decide_eq_false (by omega)
        have d1' : decide (i < M) = false := decide_eq_false hlt
        have him : i = M := by omega
        have hX := HX.out
        rw [him] at hX
        have HQ : Hid ((pxJ (.slice Ao q co) (listN t.lp.length (stopF t.lp drop))).lies W6 w.heap.size ∧ Below w.heap.size w W6) := by
          rw [← HMe.out]
          exact ⟨own_more (hX.1.mem List.mem_cons_self) HB3.out.size, HB3.out.trans (hX.2.mono HB3.out.size)⟩
        clear hX HX him hBs Hq
        go_wp2
        go_ret2
        rw [HR.out]
        exact ⟨_, rfl, HQ.out.1, HQ.out.2⟩
      case pos =>
        have d1 : decide ((i : Int) < (M : Int)) = true := decide_eq_true (by omega)
        have d1' : decide (i < M) = true := decide_eq_true hlt
        have hil : i < t.lp.length := by have := HMe.out; omega
        have h6 := HL.out W6 HX.out.2
        obtain ⟨kb, koff, ek, -, hrows⟩ := h6.pc.kd (fun e => by
          have := kidsA_len t.lp
          rw [e] at this
          simp at this
          omega)
        subst ek
        obtain ⟨R, hRe⟩ : ∃ R, R = (kidsN t.lp i).map fun q : Nat => (q : Int) := ⟨_, rfl⟩
        have hkr := kidsA_at hil
        rw [← hRe] at hkr
        obtain ⟨A2, C2, k0, -, hks⟩ := hrows i R hkr
        have hRl : R.length ≤ 2600 := by
          rw [hRe, List.length_map]
          unfold kidsN
          exact Nat.le_trans (List.length_filter_le _ _) (by rw [List.length_range]; have := HMe.out; omega)
        have hRm : ∀ x ∈ R, ∃ q : Nat, x = (q : Int) ∧ q ≤ 1000000 := fun x hx => by
          rw [hRe] at hx
          obtain ⟨q, hq, rfl⟩ := List.mem_map.1 hx
          have := (mem_kids.1 hq).1
          have := HMe.out
          exact ⟨q, rfl, by omega⟩
        obtain ⟨y, -⟩ := bxT_at (HX.out.1.mem (o := bxT 71 ob [.map (some mb)]) (by simp))
        have y0 := y 0 _ rfl
        have hHC := contI_any 38 #[.pointer (some ⟨ob, 0, none⟩)] (enters_of Try.func38 (by kernel_rfl) rfl) (fun x => runL t.lp drop x.toNat) A2 C2 R W6 hks (by omega) (fun x hx w' hb => by
          obtain ⟨q, rfl, hq⟩ := hRm x hx
          exact pget_any ob mb nn q hq (runL t.lp drop) w' ((bcell hb (lt_of_cell y0) _).trans y0) (HX.out.1.mp.below hb HX.out.1.mp.lt))
        have hlk := HX.out.1.look (wfN (i := i) (by omega))
        rw [gO_at, runL_lo hil] at hlk
        have hany : R.any (fun x => runL t.lp drop x.toNat) = (kidsN t.lp i).any (runF t.lp drop) := by
          rw [hRe, List.any_map, Bool.eq_iff_iff, List.any_eq_true, List.any_eq_true]
          constructor
          · rintro ⟨q, h1, h2⟩
            exact ⟨q, h1, by rw [← runL_lo (mem_kids.1 h1).1]; exact h2⟩
          · rintro ⟨q, h1, h2⟩
            exact ⟨q, h1, by show runL _ _ _ = true; rw [Int.toNat_natCast, runL_lo (mem_kids.1 h1).1]; exact h2⟩
        rw [hany] at hHC
        obtain ⟨z1, hz1⟩ : ∃ z, z = runF t.lp drop i := ⟨_, rfl⟩
        obtain ⟨z2, hz2⟩ : ∃ z, z = (kidsN t.lp i).any (runF t.lp drop) := ⟨_, rfl⟩
        have hst : stopF t.lp drop i = (!z1 && z2) := by unfold stopF; rw [hz1, hz2]
        rw [← hz1] at hlk
        rw [← hz2] at hHC
        have HC := Lib.hid hHC
        obtain ⟨RL, hRL⟩ : ∃ RL, RL = R.length := ⟨_, rfl⟩
        rw [← hRL] at HC k0
        have HSt := Lib.hid hst
        have HNl : Hid ((listN i (stopF t.lp drop)).length ≤ 2600) := by
          have := listN_len i (stopF t.lp drop)
          show _ ≤ _
          omega
        have hiI : (i : Int) < (M : Int) := by omega
        have hi0 : (0 : Int) ≤ (i : Int) := by omega
        have HJ : Hid (i + 1 ≤ M ∧ i < M) := by show _ ∧ _; omega
        have hmf := hmf_any
        have HB6 := Lib.hid hBs
        clear hHC hany hRL hRe hkr hks hRl hRm hrows hz1 hz2 hst h6 y hil hBs
        cases z1 with
        | true =>
          have HN : Hid (listN (i + 1) (stopF t.lp drop) = listN i (stopF t.lp drop)) := listN_no (by rw [HSt.out]; rfl)
          have HQ : Hid (RnA w3.heap.size mb nn (gO (runL t.lp drop)) (pxJ (.slice Ao q co) (listN (i + 1) (stopF t.lp drop)) :: [bxT 71 ob [.map (some mb)]]) W6 ∧ Below w3.heap.size w3 W6) := by
            rw [HN.out]; exact HX.out
          have HQl : Hid (q = (listN (i + 1) (stopF t.lp drop)).length) := by show _ = _; rw [HN.out]; exact Hq.out
          clear HX Hq HN HC
          go_wp2
          go_roundw
          case rel => exact ⟨i + 1, _, _, _, _, _, HJ.out.1, by go_num, rfl, rfl, rfl, HQl.out, HQ.out⟩
          case measure => simp [intOf]; have := HJ.out; omega
        | false =>
          cases z2 with
          | false =>
            have HN : Hid (listN (i + 1) (stopF t.lp drop) = listN i (stopF t.lp drop)) := listN_no (by rw [HSt.out]; rfl)
            go_wp2_with (go_at_call 37; refine HC.out.mono ?_; rintro e w7 ⟨rfl, hb7⟩)
            have HQ : Hid (RnA w3.heap.size mb nn (gO (runL t.lp drop)) (pxJ (.slice Ao q co) (listN (i + 1) (stopF t.lp drop)) :: [bxT 71 ob [.map (some mb)]]) w7 ∧ Below w3.heap.size w3 w7) := by
              rw [HN.out]; exact ⟨HX.out.1.to hb7, HX.out.2.trans (hb7.mono HB6.out)⟩
            have HQl : Hid (q = (listN (i + 1) (stopF t.lp drop)).length) := by show _ = _; rw [HN.out]; exact Hq.out
            clear HX Hq HN hb7
            go_roundw
            case rel => exact ⟨i + 1, _, _, _, _, _, HJ.out.1, by go_num, rfl, rfl, rfl, HQl.out, HQ.out⟩
            case measure => simp [intOf]; have := HJ.out; omega
          | true =>
            have HN : Hid (listN (i + 1) (stopF t.lp drop) = listN i (stopF t.lp drop) ++ [(i : Int)]) := listN_yes (by rw [HSt.out]; rfl)
            go_upto_region 12 with (go_at_call 37; refine HC.out.mono ?_; rintro e w7 ⟨rfl, hb7⟩)
            have hb7' := HX.out.2.trans (hb7.mono HB6.out)
            obtain ⟨A3, c3, w8, hr9, h8, hb8⟩ := RnA.push (a := Ao) (c := co) (l := listN i (stopF t.lp drop)) (by rw [← Hq.out]; exact HX.out.1.to hb7) hb7'.size (by have := HNl.out; omega) (i : Int)
            rw [← Hq.out] at hr9 h8
            have HQ : Hid (RnA w3.heap.size mb nn (gO (runL t.lp drop)) (pxJ (.slice A3 (q + 1) c3) (listN (i + 1) (stopF t.lp drop)) :: [bxT 71 ob [.map (some mb)]]) w8 ∧ Below w3.heap.size w3 w8) := by
              rw [HN.out]; exact ⟨h8, hb7'.trans hb8⟩
            have HQl : Hid (q + 1 = (listN (i + 1) (stopF t.lp drop)).length) := by show _ = _; rw [HN.out, List.length_append, ← Hq.out]; rfl
            clear HX Hq HN hb7 hb7' h8 hb8
            go_wp2_with (at_builtin; refine wpList_append_run _ rfl _ _ _ _ rfl _ _ (by rfl) (by rfl) hr9 ?_)
            go_roundw
            case rel => exact ⟨i + 1, _, _, _, _, _, HJ.out.1, by go_num, rfl, rfl, rfl, HQl.out, HQ.out⟩
            case measure => simp [intOf]; have := HJ.out; omega
end Go.Proofs.Ytbibndpkcilblaa
