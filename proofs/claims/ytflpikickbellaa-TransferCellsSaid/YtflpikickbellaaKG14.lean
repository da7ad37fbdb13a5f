/- Layer 32: the program's planned. Layer 32: the program's Plan: its memory; the turn. -/
import Derived.Test.YtflpikickbellaaKPd
import Derived.Test.YtflpikickbellaaKRt6
import Derived.Test.YtflpikickbellaaKRt7
import Derived.Test.YtflpikickbellaaKG11
import Derived.Shelf.Abstract
import Derived.Deep.RegionLaw
namespace Go.Proofs.Ytflpikickbellaa
open Go.RowKit Go.Shelf Go.Sort
set_option maxRecDepth 100000

theorem zero_intP (w : World) : (zeroValue 3).run Try.prog w = .ok (.int .i64 0) w := by kernel_rfl
theorem cntT_mono (s : Sft) (t : Int) {i j : Nat} (h : i ≤ j) : cntT s t i ≤ cntT s t j := by
  unfold cntT
  have e : s.to_.take i = (s.to_.take j).take i := by rw [List.take_take, Nat.min_eq_left h]
  rw [e]
  have := List.countP_append (p := fun u => decide (u = t)) (l₁ := (s.to_.take j).take i) (l₂ := (s.to_.take j).drop i)
  rw [List.take_append_drop] at this
  omega
/-- What planned has counted. -/
structure LdA (W1 : World) (mb : Nat) (s : Sft) (i n : Nat) (G : Int → Option Value) (W : World) : Prop where
  mv : MapV W mb n G
  lo : Below W1.heap.size W1 W
  hm : W1.heap.size ≤ mb
  cnt : ∀ t, (G t).getD (.int .i64 0) = .int .i64 ((cntT s t i : Nat) : Int)
  le : ∀ t, cntT s t i ≤ 6
  nn : n ≤ i
theorem LdA.new (W1 : World) (s : Sft) : LdA W1 W1.heap.size s 0 0 (fun _ => none) (W1.alloc (.map #[] 0)) :=
  ⟨MapV.new W1, al_t _ _, Nat.le_refl _, fun t => by show _ = Value.int .i64 ((cntT s t 0 : Nat) : Int); unfold cntT; simp, fun t => by unfold cntT; simp, Nat.le_refl _⟩
theorem LdA.step {W1 W : World} {mb : Nat} {s : Sft} {i n : Nat} {G : Int → Option Value} (h : LdA W1 mb s i n G W) (hi : i < s.to_.length) (hi2 : s.to_.length ≤ 40) {z : Int} (hz : z = s.to_.getD i 0) (hw : wfK z) :
    ∃ w', (Instr.mapUpdate 117 (.map (some mb)) (.int .i64 z) (.int .i64 (((cntT s z i : Nat) : Int) + 1))).run Try.prog W = .ok () w' ∧ Below W1.heap.size W1 w' ∧
      (Instr.lookup 117 (.map (some mb)) (.int .i64 z) false).run Try.prog w' = .ok (.int .i64 (((cntT s z i : Nat) : Int) + 1)) w' ∧ (cntT s z i + 1 ≤ 6 → ∃ G', LdA W1 mb s (i + 1) (n + 1) G' w') := by
  obtain ⟨w', hr, hm, hg⟩ := h.mv.put (by have := h.nn; unfold maxLen; omega) Try.underlying117 hw (.int .i64 (((cntT s z i : Nat) : Int) + 1))
  have hlo : Below W1.heap.size W1 w' := h.lo.grown hg.grown h.lo.size (fun k e => by cases e; exact h.hm)
  have hNx := fun t => cntT_next (t := t) hi
  refine ⟨w', hr, hlo, ?_, fun h6 => ⟨_, hm, hlo, h.hm, fun t => ?_, fun t => ?_, by have := h.nn; omega⟩⟩
  · have := hm.look Try.underlying117 (zero_intP w') hw
    rw [if_pos rfl] at this
    exact this
  · by_cases e : t = z
    · subst e
      rw [if_pos rfl, hNx, if_pos hz.symm]
      show Value.int .i64 _ = _
      congr 1
    · rw [if_neg e, h.cnt, hNx, if_neg (fun e2 => e (by rw [← e2, hz])), Nat.add_zero]
  · rw [hNx]
    by_cases e : s.to_.getD i 0 = t
    · rw [if_pos e, ← e, ← hz]; exact h6
    · rw [if_neg e]; exact h.le t
set_option maxHeartbeats 8000000 in
theorem pplnd_any (A F : Option Addr) (c fc : Nat) (s : Sft) (hl : s.to_.length ≤ 4611686018427387904) (hf : s.first.length ≤ 4611686018427387904) (w : World) (h : SfAt A F s w) :
    Calls Try.prog 44 #[sftV A F c fc s] w fun e w' => LPost w (plndE s) e w' := by
  have hb0 := al_t w (sftB A F c fc s)
  have HX0 : Hid (SfBx w.heap.size A F c fc s (w.alloc (sftB A F c fc s)) ∧ Below w.heap.size w (w.alloc (sftB A F c fc s))) := ⟨SfBx.new c fc h, hb0⟩
  have c0 := HX0.out.1.c0
  have c1 := HX0.out.1.c1
  have HO := Lib.hid (porder_any A F c fc s hl hf _ HX0.out.1.at_)
  have hmm := @run_makeMap Try.prog
  obtain ⟨r, hr⟩ : ∃ r, r = plndE s := ⟨_, rfl⟩
  rw [← hr]
  clear h hb0
  by_cases hE : (ordE s).2 = 0
  case neg =>
    have HR : Hid (r = ([], (ordE s).2)) := by show _ = _; rw [hr, plndE_e hE]
    have d0 : ((ordE s).2 != 0) = true := by simpa using hE
    have HO2 := Lib.hid (show Calls _ _ _ _ fun e w' => ∃ a n k, e = .returned (.tuple #[.slice a n k, .int .i64 (ordE s).2]) ∧ Below (w.alloc (sftB A F c fc s)).heap.size (w.alloc (sftB A F c fc s)) w' from Calls.mono HO.out fun e w' ⟨a, k, he, _, hb⟩ => ⟨a, _, k, he, hb⟩)
    obtain ⟨x, hx⟩ : ∃ x, x = (ordE s).2 := ⟨_, rfl⟩
    rw [← hx] at HR d0 HO2
    clear hr hE hx HO hmm
    go_enter Try.func44, Try.ntmps44
    go_wp2_with fail
    refine HO2.out.mono ?_
    rintro e w1 ⟨a, n, k, rfl, hb1⟩
    have HB := Lib.hid (HX0.out.2.trans (hb1.mono HX0.out.2.size))
    clear hb1
    go_wp2
    go_ret2
    exact LPost.none HR.out HB.out
  case pos =>
  have hs := sftE_ok (ordE_zero hE)
  have HS := Lib.hid hs
  have hn40 : s.to_.length ≤ 40 := hs.len
  have HMa : Hid (stackB s = true → r = ([], 4)) := fun h => hr.trans (plndE_many hE h)
  have HOk : Hid (stackB s = false → r = ((ordE s).1, 0)) := fun h => hr.trans (plndE_ok hE h)
  have HO2 := Lib.hid (show Calls _ _ _ _ fun e w' => ∃ a k, e = .returned (.tuple #[.slice a (ordE s).1.length k, .int .i64 0]) ∧ SlI w' w'.heap.size a (ordE s).1 ∧ Below (w.alloc (sftB A F c fc s)).heap.size (w.alloc (sftB A F c fc s)) w' from Calls.mono HO.out fun e w' ⟨a, k, he, hsl, hb⟩ => ⟨a, k, by rw [he, hE], hsl, hb⟩)
  obtain ⟨l, hlE⟩ : ∃ l, l = (ordE s).1 := ⟨_, rfl⟩
  rw [← hlE] at HO2 HOk
  obtain ⟨pb, hpb⟩ : ∃ pb, pb = w.heap.size := ⟨_, rfl⟩
  clear hr hE hs HO hlE
  go_enter Try.func44, Try.ntmps44
  go_upto_region 4 with ((go_at_call 9; refine HO2.out.mono ?_; rintro e w1 ⟨a, k, rfl, hsl, hb1⟩))
  refine abs_world (Q := fun W => Code.wp _ _ _ _ W) (F := fun W => SfBx w.heap.size A F c fc s W ∧ SlI W W.heap.size a l ∧ Below w.heap.size w W) _ ⟨HX0.out.1.to hb1, hsl, HX0.out.2.trans (hb1.mono HX0.out.2.size)⟩ ?_
  clear HX0 c0 c1 hb1 hsl HO2
  rintro W1 ⟨hx, hsl, hb1⟩
  rw [← hpb] at hx ⊢
  have HXs : Hid (∀ W, Below W1.heap.size W1 W → SfBx pb A F c fc s W ∧ SlI W W.heap.size a l ∧ Below w.heap.size w W) := fun W hb => ⟨hx.to hb, (hsl.below hb).more hb.size, hb1.trans (hb.mono hb1.size)⟩
  obtain ⟨mb, hmb⟩ : ∃ mb, mb = W1.heap.size := ⟨_, rfl⟩
  have HLd : Hid (LdA W1 mb s 0 0 (fun _ => none) (W1.alloc (.map #[] 0))) := by
    have := LdA.new W1 s
    rw [← hmb] at this
    exact this
  clear hx hsl hb1 hpb
  go_upto_region 5 with fail
  rw [← hmb]
  refine abs_world (Q := fun W => Code.wp _ _ _ _ W) (F := fun W => LdA W1 mb s 0 0 (fun _ => none) W) _ HLd.out ?_
  clear HLd hmm hmb
  intro W2 h2
  have HL2 := Lib.hid h2
  have c0 := (HXs.out W2 h2.lo).1.c0
  clear h2
  go_wp2
  clear c0
  go_loopw [21] (fun s21 wr => ∃ (i n : Nat) (G : Int → Option Value), i ≤ s.to_.length ∧ s21 = .int .i64 (i : Int) ∧ Hid (LdA W1 mb s i n G wr)) (fun s21 _ => s.to_.length - (intOf s21).toNat)
  case atStart => exact ⟨0, 0, _, Nat.zero_le _, rfl, HL2.out⟩
  case round =>
    obtain ⟨i, n, G, hi, rfl, HL⟩ := hrel
    clear HL2
    obtain ⟨W, hW⟩ : ∃ x : World, x = wr := ⟨_, rfl⟩
    rw [← hW] at HL ⊢
    clear hW
    by_cases hlt : i < s.to_.length
    case pos =>
      obtain ⟨b, off, hA, hcl⟩ := (HXs.out W HL.out.lo).1.to_at hlt
      obtain ⟨z0, z1, -⟩ := HS.out.to_ i hlt
      obtain ⟨z, hz⟩ : ∃ z, z = s.to_.getD i 0 := ⟨_, rfl⟩
      rw [← hz] at hcl z0 z1
      have hwz : wfK z := WalkArith.wf_i64 (by omega)
      obtain ⟨w', hr1, hlo, hr2, hG⟩ := HL.out.step hlt hn40 hz hwz
      have hlk : (Instr.lookup 117 (.map (some mb)) (.int .i64 z) false).run Try.prog W = .ok (.int .i64 ((cntT s z i : Nat) : Int)) W := by
        have := HL.out.mv.look Try.underlying117 (zero_intP W) hwz
        rw [HL.out.cnt] at this
        exact this
      have hk6 := HL.out.le z
      have HMn := Lib.hid (fun h => stack_true (s := s) (t := z) (Nat.lt_of_lt_of_le h (cntT_mono s z (show i + 1 ≤ s.to_.length by omega))))
      have HNx := Lib.hid (cntT_next (t := z) hlt)
      have HN2 : Hid (cntT s z (i + 1) = cntT s z i + 1) := by show _ = _; rw [HNx.out, if_pos hz.symm]
      obtain ⟨k, hk⟩ : ∃ k, k = cntT s z i := ⟨_, rfl⟩
      rw [← hk] at hr1 hr2 hG hlk hk6 HN2
      have HB := Lib.hid (HXs.out w' hlo).2.2
      subst hA
      clear hz hwz hk HNx hlo
      by_cases e6 : k + 1 ≤ 6
      case pos =>
        have HG := Lib.hid (hG e6)
        have d1 : decide ((6 : Int) < (k : Int) + 1) = false := decide_eq_false (by omega)
        clear hG HMn
        go_wp2
        go_roundw
        case rel =>
          obtain ⟨G', hG'⟩ := HG.out
          exact ⟨i + 1, n + 1, G', by omega, by go_num, hG'⟩
        case measure => simp [intOf]; omega
      case neg =>
        have d1 : decide ((6 : Int) < (k : Int) + 1) = true := decide_eq_true (by omega)
        have HR2 := Lib.hid (HMa.out (HMn.out (by rw [HN2.out]; omega)))
        clear hG HMn
        go_wp2
        go_ret2
        exact LPost.none HR2.out HB.out
    case neg =>
      obtain rfl : i = s.to_.length := by omega
      have HR2 := Lib.hid (HOk.out (stack_false HS.out fun t _ _ => by have := HL.out.le t; omega))
      have HXe := Lib.hid (HXs.out W HL.out.lo)
      clear HL
      go_wp2
      go_ret2
      exact LPost.some_ HR2.out HXe.out.2.1 HXe.out.2.2
end Go.Proofs.Ytflpikickbellaa
namespace Go.Proofs.Ytflpikickbellaa
open Go.RowKit Go.Shelf Go.Sort
set_option maxRecDepth 100000

/-- A box that a call owns. -/
def bxO (T : TypeId) (b : Nat) (x : Value) : Own := ⟨T, 1, 1, .slice (some ⟨b, 0, none⟩) 1 1, [x]⟩
theorem bxO_at {w : World} {B : Nat} {T : TypeId} {b : Nat} {x : Value} (h : (bxO T b x).lies w B) : w.cell? ⟨b, 0, none⟩ = some x ∧ w.frozen? ⟨b, 0, none⟩ = false := by
  have h0 : w.ownsRow B T 1 (.slice (some ⟨b, 0, none⟩) 1 1) 1 [x] := h
  exact ⟨h0.cellAt 0 (by decide), h0.frozenAt 0⟩
theorem bxO_new (w : World) (T : TypeId) (x : Value) : (bxO T w.heap.size x).lies (w.alloc (.cells #[x] T)) w.heap.size := by
  have e : (w.alloc (.cells #[x] T)).heap[w.heap.size]? = some (.cells #[x] T (0, 0)) := Array.getElem?_push_size
  have := own_of_whole (B := w.heap.size) (n := 1) (c := 1) (sz := 1) e (Nat.le_refl _) (Nat.le_refl _) (by unfold maxLen; omega) rfl
  exact this
theorem bxO_set {w : World} {B : Nat} {T : TypeId} {b : Nat} {x : Value} {L : List Own} (h : Owns w B (bxO T b x :: L)) (y : Value) : Owns (w.setCell ⟨b, 0, none⟩ y) B (bxO T b y :: L) := by
  have h0 : w.ownsRow B T 1 (.slice (some ⟨b, 0, none⟩) 1 1) 1 [x] := h.head
  obtain ⟨h1, h2⟩ := World.ownsRow.stored h0 0 y
  exact h.turn (o' := bxO T b y) h2 h1 (fun k hk => Or.inl hk)
theorem bxO_grown {w : World} {B : Nat} {T : TypeId} {b : Nat} {x : Value} {L : List Own} (h : Owns w B (bxO T b x :: L)) (hB : B ≤ w.heap.size) (y : Value) : Below B w (w.setCell ⟨b, 0, none⟩ y) := by
  have h0 : w.ownsRow B T 1 (.slice (some ⟨b, 0, none⟩) 1 1) 1 [x] := h.head
  exact Below.of_grown (grown_setAt w b 0 y) hB (fun k e => by cases e; exact (World.ownsRow.lt h0 _ rfl).1)
/-- An instruction is appended, and the list stored into its box. -/
theorem plm_push {w : World} {B ob c : Nat} {a : Option Addr} {O : List Ins} {L : List Own} (h : Owns w B (bxO 32 ob (.slice a O.length c) :: pxO (.slice a O.length c) O :: L)) (hB : B ≤ w.heap.size) (hl : O.length ≤ 100000) (x : Ins) :
    ∃ A' c' w', (Builtin.append_ #[32, 32] 32 #[.slice a O.length c, .slice (some ⟨w.heap.size, 0, none⟩) 1 1]).run Try.prog (w.alloc (insB x)) = .ok (.slice A' (O.length + 1) c') w' ∧
      w'.cell? ⟨ob, 0, none⟩ = some (.slice a O.length c) ∧ w'.frozen? ⟨ob, 0, none⟩ = false ∧ Owns (w'.setCell ⟨ob, 0, none⟩ (.slice A' (O.length + 1) c')) B (bxO 32 ob (.slice A' (O.length + 1) c') :: pxO (.slice A' (O.length + 1) c') (O ++ [x]) :: L) ∧
      Below B w (w'.setCell ⟨ob, 0, none⟩ (.slice A' (O.length + 1) c')) := by
  obtain ⟨A', c', w', hr, ho, hb⟩ := pxO_app h.swap hB hl x
  have ho' := ho.swap
  obtain ⟨q0, q1⟩ := bxO_at ho'.head
  exact ⟨A', c', w', hr, q0, q1, bxO_set ho' _, hb.trans (bxO_grown ho' (Nat.le_trans hB hb.size) _)⟩
/-- The boxes and rows while the plan is made. -/
def PlO (rb ob : Nat) (now : Int) (v vs : Value) (O : List Ins) (ms : List Int) : List Own := [bxO 3 rb (.int .i64 now), bxO 32 ob v, pxO v O, pxJ vs ms]
/-- What a turn of the racking leaves. -/
def TnPost (w : World) (B rb ob : Nat) (to_ : Int) (vs : Value) (O : List Ins) (ms : List Int) (e : Ending) (w' : World) : Prop :=
  e = .returned (.tuple #[]) ∧ (∃ v, Owns w' B (PlO rb ob to_ v vs O ms)) ∧ Below B w w'
set_option maxHeartbeats 4000000 in
theorem pturn_any (B rb ob : Nat) (now to_ : Int) (v vs : Value) (O : List Ins) (ms : List Int) (w : World) (hB : B ≤ w.heap.size) (hl : O.length ≤ 1000) (h : Owns w B (PlO rb ob now v vs O ms)) :
    Calls Try.prog 47 #[.int .i64 to_, .pointer (some ⟨rb, 0, none⟩), .pointer (some ⟨ob, 0, none⟩)] w fun e w' => TnPost w B rb ob to_ vs (O ++ turnI now to_) ms e w' := by
  unfold PlO at h
  obtain ⟨a, c, rfl⟩ := pxO_form h.tail.tail
  obtain ⟨r0, r1⟩ := bxO_at h.head
  obtain ⟨o0, o1⟩ := bxO_at h.tail.head
  by_cases e : to_ = now
  case pos =>
    have d : (now != to_) = false := by simp [e]
    have HP : Hid (TnPost w B rb ob to_ vs (O ++ turnI now to_) ms (.returned (.tuple #[])) w) := by
      refine ⟨rfl, ⟨.slice a O.length c, ?_⟩, Below.refl _ _⟩
      unfold turnI
      rw [if_pos e, List.append_nil, e]
      exact h
    clear h e o0 o1
    go_enter Try.func47, Try.ntmps47
    go_wp2
    refine bodyPost_end (results_none rfl _ _ _) rfl ?_
    exact HP.out
  case neg =>
    have d : (now != to_) = true := by simpa using fun h => e h.symm
    have hp : Owns w B (bxO 32 ob (.slice a O.length c) :: pxO (.slice a O.length c) O :: bxO 3 rb (.int .i64 now) :: [pxJ vs ms]) := h.perm ((List.Perm.swap _ _ _).trans (List.Perm.cons _ (List.Perm.swap _ _ _)))
    obtain ⟨A', c', w', hr, q0, q1, ho, hb⟩ := plm_push hp hB (by omega) (rackI to_)
    have hr9 : (Builtin.append_ #[32, 32] 32 #[.slice a O.length c, .slice (some ⟨w.heap.size, 0, none⟩) 1 1]).run Try.prog (w.alloc (.cells #[.int .u8 8, .bool false, .int .u8 0, .int .i64 0, .int .i64 0, .int .i64 0, .int .i64 to_] 61)) = .ok (.slice A' (O.length + 1) c') w' := hr
    have ho2 : Owns (w'.setCell ⟨ob, 0, none⟩ (.slice A' (O.length + 1) c')) B (bxO 3 rb (.int .i64 now) :: [bxO 32 ob (.slice A' (O.length + 1) c'), pxO (.slice A' (O.length + 1) c') (O ++ [rackI to_]), pxJ vs ms]) := ho.perm ((List.Perm.cons _ (List.Perm.swap _ _ _)).trans (List.Perm.swap _ _ _))
    obtain ⟨s0, s1⟩ := bxO_at ho2.head
    have HP : Hid (TnPost w B rb ob to_ vs (O ++ turnI now to_) ms (.returned (.tuple #[])) ((w'.setCell ⟨ob, 0, none⟩ (.slice A' (O.length + 1) c')).setCell ⟨rb, 0, none⟩ (.int .i64 to_))) := by
      refine ⟨rfl, ⟨.slice A' (O.length + 1) c', ?_⟩, hb.trans (bxO_grown ho2 (Nat.le_trans hB hb.size) _)⟩
      unfold turnI
      rw [if_neg e]
      exact bxO_set ho2 _
    clear h hp ho ho2 hb hr e o1
    go_enter Try.func47, Try.ntmps47
    go_wp2_with (at_builtin; refine wpList_append_run _ rfl _ _ _ _ rfl _ _ (by rfl) (by rfl) hr9 ?_)
    refine bodyPost_end (results_none rfl _ _ _) rfl ?_
    exact HP.out
end Go.Proofs.Ytflpikickbellaa
