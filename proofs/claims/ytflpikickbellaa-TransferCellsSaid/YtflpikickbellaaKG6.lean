/- Layer 32: the program's work: off, moved; ContainsFunc over pairs. Layer 32: the program's moved. -/
import Derived.Test.YtflpikickbellaaKPc
namespace Go.Proofs.Ytflpikickbellaa
open Go.RowKit Go.Shelf Go.Sort
set_option maxRecDepth 100000

abbrev pairV (p : Int × Int) : Value := .agg #[.int .i64 p.1, .int .i64 p.2]
set_option maxHeartbeats 1000000 in
theorem idxP_any (g : Nat) (lb : Array Value) (eg : ∀ args w, (callFunc g args).run Try.prog w = .ok (.enter g args) w) (pr : Int × Int → Bool) (A : Option Addr) (c : Nat) (zs : List (Int × Int)) (w : World)
    (hs : SlPr w w.heap.size A zs) (hn : zs.length ≤ 4611686018427387904) (hp : ∀ x, x ∈ zs → ∀ w', Below w.heap.size w w' → Calls Try.prog g (#[pairV x] ++ lb) w' fun e w2 => e = .returned (.bool (pr x)) ∧ Below w'.heap.size w' w2) :
    Calls Try.prog 65 #[.slice A zs.length c, .func (.func g) #[] lb] w fun e w' => e = .returned (.int .i64 (idxE pr zs)) ∧ Below w.heap.size w w' := by
  go_enter Try.func65, Try.ntmps65
  go_wp2
  go_loopw [8] (fun i wr => ∃ k : Nat, k ≤ zs.length ∧ i = .int .i64 k ∧ Hid (∀ j y, j < k → zs[j]? = some y → pr y = false) ∧ Below w.heap.size w wr) (fun i _ => zs.length - (intOf i).toNat)
  case atStart => exact ⟨0, Nat.zero_le _, rfl, fun j _ hj => absurd hj (Nat.not_lt_zero j), Below.refl _ _⟩
  case round =>
    obtain ⟨k, hk, rfl, H, hbw⟩ := hrel
    by_cases hlt : k < zs.length
    · obtain ⟨b, off, z, rfl, hB, hr, q0, q1⟩ := hs.at_ hlt
      have c0 := (bcell hbw hB _).trans q0
      have c1 := (bcell hbw hB _).trans q1
      have hcall := hp z (List.mem_of_getElem? hr) wr hbw
      have HR : Hid (zs[k]? = some z) := hr
      clear hr hs hp q0 q1
      cases hq : pr z with
      | true =>
        rw [hq] at hcall
        have HQ : Hid (pr z = true) := hq
        clear hq
        go_wp2_with (go_at_fn g; refine hcall.mono ?_; rintro e w' ⟨rfl, hb1⟩)
        go_ret
        exact ⟨ret_int (idxE_hit HR.out HQ.out H.out).symm, hbw.trans (hb1.mono hbw.size)⟩
      | false =>
        rw [hq] at hcall
        have HQ : Hid (pr z = false) := hq
        clear hq
        go_wp2_with (go_at_fn g; refine hcall.mono ?_; rintro e w' ⟨rfl, hb1⟩)
        go_roundw
        case rel =>
          refine ⟨k + 1, by omega, by go_num, fun j y hj hy => ?_, hbw.trans (hb1.mono hbw.size)⟩
          by_cases e : j = k
          · subst e; rw [HR.out] at hy; injection hy with hy; subst hy; exact HQ.out
          · exact H.out j y (by omega) hy
        case measure => simp [intOf]; omega
    · have HE : Hid (idxE pr zs = -1) := idxE_none (fun j y hj => H.out j y (by omega))
      clear H hs hp
      go_wp2
      go_ret
      exact ⟨ret_int HE.out.symm, hbw⟩
theorem contP_any (g : Nat) (lb : Array Value) (eg : ∀ args w, (callFunc g args).run Try.prog w = .ok (.enter g args) w) (pr : Int × Int → Bool) (A : Option Addr) (c : Nat) (zs : List (Int × Int)) (w : World)
    (hs : SlPr w w.heap.size A zs) (hn : zs.length ≤ 4611686018427387904) (hp : ∀ x, x ∈ zs → ∀ w', Below w.heap.size w w' → Calls Try.prog g (#[pairV x] ++ lb) w' fun e w2 => e = .returned (.bool (pr x)) ∧ Below w'.heap.size w' w2) :
    Calls Try.prog 33 #[.slice A zs.length c, .func (.func g) #[] lb] w fun e w' => e = .returned (.bool (zs.any pr)) ∧ Below w.heap.size w w' := by
  have HA : Hid (decide (0 ≤ idxE pr zs) = zs.any pr) := idxE_any pr zs
  have hcall := Lib.hid (idxP_any g lb eg pr A c zs w hs hn hp)
  clear hs hp eg
  go_enter Try.func33, Try.ntmps33
  go_wp2_with (go_at_call 65; refine hcall.out.mono ?_; rintro e w' ⟨rfl, hb1⟩)
  go_ret
  exact ⟨ret_bool (by first | exact HA.out | (rw [← HA.out]; simp)), hb1⟩
/-- A shift under way, as a value and in a box. -/
abbrev wkV (A F : Option Addr) (c fc : Nat) (s : Sft) (mb : Nat) : Value := .agg #[.slice A s.to_.length c, .slice F s.first.length fc, .map (some mb)]
abbrev wkB (A F : Option Addr) (c fc : Nat) (s : Sft) (mb : Nat) : Obj := .cells #[.slice A s.to_.length c, .slice F s.first.length fc, .map (some mb)] 72
structure WkBx (pb : Nat) (A F : Option Addr) (c fc : Nat) (s : Sft) (mb : Nat) (W : World) : Prop where
  c0 : W.cell? ⟨pb, 0, none⟩ = some (.slice A s.to_.length c)
  c1 : W.cell? ⟨pb, 1, none⟩ = some (.slice F s.first.length fc)
  c2 : W.cell? ⟨pb, 2, none⟩ = some (.map (some mb))
  at_ : SfAt A F s W
theorem WkBx.to {pb : Nat} {A F : Option Addr} {c fc : Nat} {s : Sft} {mb : Nat} {W W' : World} (h : WkBx pb A F c fc s mb W) (hb : Below W.heap.size W W') : WkBx pb A F c fc s mb W' :=
  ⟨(bcell hb (lt_of_cell h.c0) _).trans h.c0, (bcell hb (lt_of_cell h.c1) _).trans h.c1, (bcell hb (lt_of_cell h.c2) _).trans h.c2, h.at_.to hb⟩
theorem WkBx.new {A F : Option Addr} (c fc : Nat) {s : Sft} (mb : Nat) {W : World} (h : SfAt A F s W) : WkBx W.heap.size A F c fc s mb (W.alloc (wkB A F c fc s mb)) :=
  ⟨cell_new rfl rfl rfl, cell_new rfl rfl rfl, cell_new rfl rfl rfl, h.to ((Below.refl _ W).alloc (Nat.le_refl _) _)⟩
set_option maxHeartbeats 2000000 in
theorem poff_any (A F : Option Addr) (c fc : Nat) (s : Sft) (mb : Nat) (hs : SftOk s) (i : Nat) (hi : i < s.n) (w : World) (h : SfAt A F s w) :
    Calls Try.prog 35 #[wkV A F c fc s mb, .int .i64 (i : Int)] w fun e w' => e = .returned (.int .i64 (offN s i)) ∧ Below w.heap.size w w' := by
  have hbx := WkBx.new c fc mb h
  obtain ⟨b, off, z, hA, -, hzz, hcl⟩ := hbx.at_.tz.at_ (k := i) hi
  have c0 := hbx.c0
  obtain ⟨h0, h1, -⟩ := hs.to_ i hi
  have hn := hs.len
  have hz : s.to_.getD i 0 = z := by rw [List.getD_eq_getElem?_getD, hzz]; rfl
  have HF : Hid (offN s i = z - (i : Int)) := by show _ = _; unfold offN; rw [hz]
  rw [hz] at h0 h1
  have HB := Lib.hid (al_t w (wkB A F c fc s mb))
  have hi' : i < s.to_.length := hi
  have hn' : s.to_.length ≤ 40 := hn
  subst hA
  clear h hbx hz hi hn hzz hs
  go_enter Try.func35, Try.ntmps35
  go_wp2
  go_ret
  exact ⟨ret_int HF.out.symm, HB.out⟩
set_option maxHeartbeats 1000000 in
theorem pmv1_any (p : Int × Int) (tb i : Nat) (w : World) (h : w.cell? ⟨tb, 0, none⟩ = some (.int .i64 (i : Int))) :
    Calls Try.prog 81 #[pairV p, .pointer (some ⟨tb, 0, none⟩)] w fun e w' => e = .returned (.bool (decide (p.2 = (i : Int)))) ∧ Below w.heap.size w w' := by
  obtain ⟨x, y⟩ := p
  have HB := Lib.hid (al_t w (.cells #[.int .i64 x, .int .i64 y] 63))
  have h1 : (w.alloc (.cells #[.int .i64 x, .int .i64 y] 63)).cell? ⟨tb, 0, none⟩ = some (.int .i64 (i : Int)) := (bcell HB.out (lt_of_cell h) _).trans h
  clear h
  go_enter Try.func81, Try.ntmps81
  go_wp2
  go_ret
  refine ⟨ret_bool ?_, HB.out⟩
  first
    | rfl
    | (rw [Bool.eq_iff_iff]; simp)
end Go.Proofs.Ytflpikickbellaa
namespace Go.Proofs.Ytflpikickbellaa
open Go.RowKit Go.Shelf Go.Sort
set_option maxRecDepth 100000

set_option maxHeartbeats 4000000 in
theorem pmoved_any (A F : Option Addr) (c fc : Nat) (s : Sft) (mb : Nat) (hs : SftOk s) (hf : s.first.length ≤ 4611686018427387904) (i : Nat) (hi : i < s.n) (w : World) (h : SfAt A F s w) :
    Calls Try.prog 61 #[wkV A F c fc s mb, .int .i64 (i : Int)] w fun e w' => e = .returned (.bool (movedN s i)) ∧ Below w.heap.size w w' := by
  have hbx := WkBx.new c fc mb h
  have hb1 := al_t w (wkB A F c fc s mb)
  have hb2 := al_t (w.alloc (wkB A F c fc s mb)) (.cells #[.int .i64 (i : Int)] 3)
  have hbx2 := hbx.to hb2
  have HB : Hid (Below w.heap.size w ((w.alloc (wkB A F c fc s mb)).alloc (.cells #[.int .i64 (i : Int)] 3))) := hb1.trans (hb2.mono hb1.size)
  have hti : ((w.alloc (wkB A F c fc s mb)).alloc (.cells #[.int .i64 (i : Int)] 3)).cell? ⟨w.heap.size + 1, 0, none⟩ = some (.int .i64 (i : Int)) := cell_new rfl (by simp) rfl
  have c0 := hbx2.c0
  have c1 := hbx2.c1
  have c2 := hbx2.c2
  have HOff := Lib.hid (poff_any A F c fc s mb hs i hi _ hbx2.at_)
  have HX : Hid (∀ W, Below ((w.alloc (wkB A F c fc s mb)).alloc (.cells #[.int .i64 (i : Int)] 3)).heap.size ((w.alloc (wkB A F c fc s mb)).alloc (.cells #[.int .i64 (i : Int)] 3)) W → W.cell? ⟨w.heap.size, 0, none⟩ = some (.slice A s.to_.length c) ∧ W.cell? ⟨w.heap.size, 1, none⟩ = some (.slice F s.first.length fc) ∧ W.cell? ⟨w.heap.size + 1, 0, none⟩ = some (.int .i64 (i : Int)) ∧ SfAt A F s W) := fun W hb =>
    ⟨(hbx2.to hb).c0, (hbx2.to hb).c1, (bcell hb (lt_of_cell hti) _).trans hti, (hbx2.to hb).at_⟩
  have HM : Hid (movedN s i = (decide (offN s i ≠ 0) || s.first.any fun p => decide (p.2 = (i : Int)))) := rfl
  obtain ⟨r, hr⟩ : ∃ r, r = movedN s i := ⟨_, rfl⟩
  rw [← hr] at HM ⊢
  obtain ⟨o, ho⟩ : ∃ o, o = offN s i := ⟨_, rfl⟩
  rw [← ho] at HOff HM
  have hmf : ∀ (fn : Fn) (first cap : Array Value) (w : World), (Instr.makeFunc fn first cap).run Try.prog w = .ok (.func fn first cap) w := fun _ _ _ _ => rfl
  clear h hbx hbx2 hb1 hb2 hr ho hs
  by_cases e0 : o = 0
  case neg =>
    have d0 : (o != 0) = true := by simpa using e0
    have HR : Hid (r = true) := by show _ = _; rw [HM.out, decide_eq_true e0]; rfl
    clear e0 HM
    go_enter Try.func61, Try.ntmps61
    go_wp2_with ((go_at_call 35; refine HOff.out.mono ?_; rintro e w1 ⟨rfl, hb1⟩))
    go_ret
    exact ⟨ret_bool HR.out.symm, HB.out.trans (hb1.mono HB.out.size)⟩
  case pos =>
    subst e0
    have HR : Hid (r = s.first.any fun p => decide (p.2 = (i : Int))) := by show _ = _; rw [HM.out]; rfl
    clear HM
    go_enter Try.func61, Try.ntmps61
    go_wp2_with fail
    refine HOff.out.mono ?_
    rintro e w3 ⟨rfl, hb3⟩
    obtain ⟨d0, d1, d2, hat⟩ := HX.out w3 hb3
    have HCn := Lib.hid (contP_any 81 #[.pointer (some ⟨w.heap.size + 1, 0, none⟩)] (enters_of Try.func81 (by kernel_rfl) rfl) (fun p => decide (p.2 = (i : Int))) F fc s.first w3 hat.fr hf (fun x _ w' hb => pmv1_any x (w.heap.size + 1) i w' ((bcell hb (lt_of_cell d2) _).trans d2)))
    have HB3 := Lib.hid (HB.out.trans (hb3.mono HB.out.size))
    clear hb3 hat c0 c1 c2 hti HX HOff
    go_wp2_with ((go_at_call 33; refine HCn.out.mono ?_; rintro e w4 ⟨rfl, hb4⟩))
    go_ret
    refine ⟨ret_bool ?_, HB3.out.trans (hb4.mono HB3.out.size)⟩
    first
      | exact HR.out.symm
      | (rw [HR.out]; simp)
end Go.Proofs.Ytflpikickbellaa
