/- Layer 28, the program: hangs. -/
import Derived.Test.YtbibndpkcilblaaKHg
import Derived.Laws.EntriesVeiled
namespace Go.Proofs.Ytbibndpkcilblaa
open Go.RowKit Go.Shelf Go.Sort
set_option maxRecDepth 100000

/-- What hangs on a loop, as marks. -/
def hangF (lp : List Lp) (i : Nat) : Nat → Bool := hangI lp i (lp.length - 1 - i)
theorem hangF_iff {lp : List Lp} {bound : List Int} {K lv : Nat} (h : GrN lp bound K lv) {i k : Nat} (hi : i < lp.length) (hk : k < lp.length) : hangF lp i k = true ↔ Reach lp i k := hang_reach h hi _ k (by omega) hk
abbrev fnV (ob qb vb : Nat) : Value := .func (.func 64) #[] #[.pointer (some ⟨ob, 0, none⟩), .pointer (some ⟨qb, 0, none⟩), .pointer (some ⟨vb, 0, none⟩)]
set_option maxHeartbeats 4000000 in
theorem phangs_any (L : List Lp) (bound : List Int) (K lv : Nat) (hG : GrN L bound K lv) (hM : L.length ≤ 2600) (a k b : Option Addr) (c kc nb bc : Nat) (live : Int) (bd : List Int) (i : Nat) (hi : i < L.length) (w : World) (hp : PcAt w w.heap.size a k b L (kidsA L) bd) :
    Calls Try.prog 46 #[.agg #[.slice a L.length c, .slice k L.length kc, .slice b nb bc, .int .i64 live], .int .i64 (i : Int)] w fun e w' => SnJ (listN L.length (hangF L i)) w e w' := by
  obtain ⟨h00, hb00⟩ := run_start w a k b L.length c kc nb bc live
  have hal := al_t (((w.alloc (.cells #[.slice a L.length c, .slice k L.length kc, .slice b nb bc, .int .i64 live] 63)).alloc (.map #[] 0)).alloc (.cells #[.map (some (w.heap.size + 1))] 71)) (.cells #[.nilFunc] 102)
  have h0 := h00.add hal hb00.size (bxT_new _ 102 [.nilFunc])
  have hb0 := hb00.trans (hal.mono hb00.size)
  simp only [World.size_alloc] at h0
  have HX := Lib.hid (And.intro h0 hb0)
  have HP := Lib.hid hp
  have HG := Lib.hid hG
  obtain ⟨M, hMe⟩ : ∃ M, M = L.length := ⟨_, rfl⟩
  have HMe := Lib.hid hMe
  have HM : Hid (L.length ≤ 2600) := hM
  rw [← hMe] at HX ⊢
  clear h0 hb0 hp hG hMe h00 hb00 hal
  go_enter Try.func46, Try.ntmps46
  have hmm := @run_makeMap Try.prog
  have hmf := hmf_any
  go_upto_region 3 with fail
  clear hmm
  obtain ⟨qb, hqb⟩ : ∃ qb, qb = w.heap.size := ⟨_, rfl⟩
  obtain ⟨mb, hmb⟩ : ∃ mb, mb = w.heap.size + 1 := ⟨_, rfl⟩
  obtain ⟨ob, hob⟩ : ∃ ob, ob = w.heap.size + 1 + 1 := ⟨_, rfl⟩
  obtain ⟨vb, hvb⟩ : ∃ vb, vb = w.heap.size + 1 + 1 + 1 := ⟨_, rfl⟩
  refine abs_world (Q := fun W => Code.wp _ _ _ _ W) (F := fun W => RnA w.heap.size mb 0 (gO fun _ => false) (bxT 102 vb [.nilFunc] :: runX ob mb qb (lqV a k b M c kc nb bc live)) W ∧ Below w.heap.size w W) _ ?_ ?_
  · have h := HX.out
    rw [hvb, hob, hmb, hqb]
    exact h
  rw [show (Value.pointer (some ⟨w.heap.size, 0, none⟩)) = Value.pointer (some ⟨qb, 0, none⟩) by rw [hqb], show (Value.pointer (some ⟨w.heap.size + 1 + 1, 0, none⟩)) = Value.pointer (some ⟨ob, 0, none⟩) by rw [hob], show (Value.pointer (some ⟨w.heap.size + 1 + 1 + 1, 0, none⟩)) = Value.pointer (some ⟨vb, 0, none⟩) by rw [hvb], show Value.map (some (w.heap.size + 1)) = .map (some mb) by rw [hmb]]
  clear HX hqb hmb hob hvb
  rintro W1 ⟨h1, hb1⟩
  obtain ⟨y, yf, -, -⟩ := bxT_at h1.own.head
  have y0 := y 0 _ rfl
  have yf0 := yf 0
  have h2 := bxT_set h1.own 0 (fnV ob qb vb)
  have hb2 := bxT_below h1.own hb1.size 0 (fnV ob qb vb)
  have hg2 := grown_setAt W1 vb 0 (fnV ob qb vb)
  have HX2 : Hid (VsA w.heap.size mb ob qb vb (lqV a k b L.length c kc nb bc live) L.length (fun _ => false) 0 (W1.setCell ⟨vb, 0, none⟩ (fnV ob qb vb)) ∧ Below w.heap.size w (W1.setCell ⟨vb, 0, none⟩ (fnV ob qb vb))) := by
    rw [← HMe.out]
    exact ⟨⟨h1.turn hg2 h2, fun _ _ => rfl, Nat.zero_le _⟩, hb1.trans hb2⟩
  clear h1 hb1 y yf h2 hb2 hg2
  go_upto_region 4 with fail
  refine abs_world (Q := fun W => Code.wp _ _ _ _ W) (F := fun W => VsA w.heap.size mb ob qb vb (lqV a k b L.length c kc nb bc live) L.length (fun _ => false) 0 W ∧ Below w.heap.size w W) _ HX2.out ?_
  clear HX2 y0 yf0 hmf
  clear W1
  rintro W2 ⟨h2, hb2⟩
  obtain ⟨y0, y1, -⟩ := h2.box
  have HV := Lib.hid (pvisit_any L bound K lv HG.out HM.out w a k b c kc nb bc live bd HP.out mb ob qb vb (L.length - i) i hi (Nat.le_refl _) (fun _ => false) 0 W2 (whole_none L i) h2 hb2)
  have HB2 := Lib.hid hb2
  clear h2 hb2
  go_wp2_with fail
  refine HV.out.mono ?_
  rintro e w3 ⟨rfl, S', n', hv, h3, hb3⟩
  obtain ⟨-, y1', -⟩ := h3.box
  have hal := al_t w3 (.cells #[.map (some mb)] 71)
  have hb3' := HB2.out.trans hb3
  have HS := Lib.hid (sortedKeys_any (Bs := w3.heap.size) (h3.rn.mp.below hal h3.rn.mp.lt) (by simp) (cell_new rfl rfl rfl) (N := L.length) (by have := HM.out; omega) (keys_few h3.hi))
  have HB4 := Lib.hid (hb3'.trans (hal.mono hb3'.size))
  have HF : Hid (listN L.length S' = listN L.length (hangF L i)) := listN_congr fun q hq => by
    rw [Bool.eq_iff_iff, hv q, hangF_iff HG.out hi hq]
    simp
  have HHi := Lib.hid h3.hi
  clear hv h3 hb3 hb3' hal HV y0 y1
  go_wp2_with fail
  refine (keys_any mb w3).mono ?_
  rintro e w5 ⟨rfl, rfl⟩
  go_wp2_with fail
  refine HS.out.mono ?_
  rintro e w6 ⟨v, xs, rfl, hk, ho, hb6⟩
  rw [keys_sorted HHi.out hk, HF.out] at ho
  have hso : (pxJ v (listN L.length (hangF L i))).lies w6 (w3.alloc (.cells #[.map (some mb)] 71)).heap.size := ho
  have HQ : Hid (SnJ (listN L.length (hangF L i)) w (.returned v) w6) := ⟨v, rfl, own_more hso HB4.out.size, HB4.out.trans (hb6.mono HB4.out.size)⟩
  clear hk ho hso hb6 HS
  rw [← HMe.out] at HQ
  go_wp2
  go_ret
  exact HQ.out
end Go.Proofs.Ytbibndpkcilblaa
