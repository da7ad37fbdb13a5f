/- Layer 32: may a stop, may a loop come next (Order$1, Order$2). Layer 32: least. -/
import Derived.Test.YtflpikickbellaaKPz
import Derived.Test.YtflpikickbellaaKSorted
import Derived.Test.YtflpikickbellaaKRt4
namespace Go.Proofs.Ytflpikickbellaa
open Go.RowKit Go.Shelf Go.Sort
set_option maxRecDepth 100000

set_option maxHeartbeats 4000000 in
theorem pready_any (A F : Option Addr) (c fc : Nat) (s : Sft) (mb sb wb : Nat) (hs : SftOk s) (hf : s.first.length ≤ 4611686018427387904) (come : Nat → Bool) (t : Int) (w : World) (hsb : SfBx sb A F c fc s w) (h : WkBx wb A F c fc s mb w) (hw : WtA mb s come w) :
    Calls Try.prog 32 #[.int .i64 t, .pointer (some ⟨sb, 0, none⟩), .pointer (some ⟨wb, 0, none⟩)] w fun e w' => e = .returned (.bool (readyN s come t)) ∧ Below w.heap.size w w' := by
  have hb1 := al_t w (.cells #[.int .i64 t] 3)
  have HB := Lib.hid hb1
  have ht : (w.alloc (.cells #[.int .i64 t] 3)).cell? ⟨w.heap.size, 0, none⟩ = some (.int .i64 t) := cell_new rfl rfl rfl
  have hs1 := hsb.to hb1
  have c1 := hs1.c1
  have HC := Lib.hid (contP_any 34 #[.pointer (some ⟨wb, 0, none⟩), .pointer (some ⟨w.heap.size, 0, none⟩)] (enters_of Try.func34 (by kernel_rfl) rfl) (holdsS s come t) F fc s.first (w.alloc (.cells #[.int .i64 t] 3)) hs1.at_.fr hf (fun x hx w' hb => pstop1_any A F c fc s mb wb w.heap.size hs come t x hx w' ((h.to hb1).to hb) ((bcell hb (lt_of_cell ht) _).trans ht) ((hw.to hb1).to hb)))
  have hmf : ∀ (fn : Fn) (first cap : Array Value) (w : World), (Instr.makeFunc fn first cap).run Try.prog w = .ok (.func fn first cap) w := fun _ _ _ _ => rfl
  have HR : Hid (readyN s come t = !(s.first.any (holdsS s come t))) := rfl
  obtain ⟨r, hr⟩ : ∃ r, r = readyN s come t := ⟨_, rfl⟩
  rw [← hr] at HR ⊢
  obtain ⟨q, hq⟩ : ∃ q, q = s.first.any (holdsS s come t) := ⟨_, rfl⟩
  rw [← hq] at HR HC
  clear h hw hsb hs1 hb1 hs hr hq ht
  go_enter Try.func32, Try.ntmps32
  go_wp2_with ((go_at_call 33; refine HC.out.mono ?_; rintro e w4 ⟨rfl, hb4⟩))
  go_ret
  exact ⟨ret_bool HR.out.symm, HB.out.trans (hb4.mono HB.out.size)⟩
set_option maxHeartbeats 4000000 in
theorem pfree_any (A F : Option Addr) (c fc : Nat) (s : Sft) (mb sb wb tb : Nat) (hs : SftOk s) (hf : s.first.length ≤ 4611686018427387904) (come : Nat → Bool) (t : Int) (i : Nat) (w : World) (hsb : SfBx sb A F c fc s w) (h : WkBx wb A F c fc s mb w) (ht : w.cell? ⟨tb, 0, none⟩ = some (.int .i64 t)) (hw : WtA mb s come w) :
    Calls Try.prog 37 #[.int .i64 (i : Int), .pointer (some ⟨sb, 0, none⟩), .pointer (some ⟨wb, 0, none⟩), .pointer (some ⟨tb, 0, none⟩)] w fun e w' => e = .returned (.bool (freeN s come t i)) ∧ Below w.heap.size w w' := by
  have hb1 := al_t w (.cells #[.int .i64 (i : Int)] 3)
  have HB := Lib.hid hb1
  have hi : (w.alloc (.cells #[.int .i64 (i : Int)] 3)).cell? ⟨w.heap.size, 0, none⟩ = some (.int .i64 (i : Int)) := cell_new rfl rfl rfl
  have ht1 := (bcell hb1 (lt_of_cell ht) _).trans ht
  have hs1 := hsb.to hb1
  have c1 := hs1.c1
  have HC := Lib.hid (contP_any 38 #[.pointer (some ⟨w.heap.size, 0, none⟩), .pointer (some ⟨wb, 0, none⟩), .pointer (some ⟨tb, 0, none⟩)] (enters_of Try.func38 (by kernel_rfl) rfl) (holdsI s come t i) F fc s.first (w.alloc (.cells #[.int .i64 (i : Int)] 3)) hs1.at_.fr hf (fun x hx w' hb => pfree1_any A F c fc s mb wb tb w.heap.size hs come t i x hx w' ((h.to hb1).to hb) ((bcell hb (lt_of_cell ht1) _).trans ht1) ((bcell hb (lt_of_cell hi) _).trans hi) ((hw.to hb1).to hb)))
  have hmf : ∀ (fn : Fn) (first cap : Array Value) (w : World), (Instr.makeFunc fn first cap).run Try.prog w = .ok (.func fn first cap) w := fun _ _ _ _ => rfl
  have HR : Hid (freeN s come t i = !(s.first.any (holdsI s come t i))) := rfl
  obtain ⟨r, hr⟩ : ∃ r, r = freeN s come t i := ⟨_, rfl⟩
  rw [← hr] at HR ⊢
  obtain ⟨q, hq⟩ : ∃ q, q = s.first.any (holdsI s come t i) := ⟨_, rfl⟩
  rw [← hq] at HR HC
  clear h hw hsb hs1 hb1 hs hr hq ht ht1 hi
  go_enter Try.func37, Try.ntmps37
  go_wp2_with ((go_at_call 33; refine HC.out.mono ?_; rintro e w4 ⟨rfl, hb4⟩))
  go_ret
  exact ⟨ret_bool HR.out.symm, HB.out.trans (hb4.mono HB.out.size)⟩
end Go.Proofs.Ytflpikickbellaa
namespace Go.Proofs.Ytflpikickbellaa
open Go.RowKit Go.Shelf Go.Sort Go.Maps
set_option maxRecDepth 100000

set_option maxHeartbeats 1000000 in
theorem idxJ_any (g : Nat) (lb : Array Value) (eg : ∀ args w, (callFunc g args).run Try.prog w = .ok (.enter g args) w) (pr : Int → Bool) (A : Option Addr) (c : Nat) (zs : List Int) (w : World)
    (hs : SlI w w.heap.size A zs) (hn : zs.length ≤ 4611686018427387904) (hp : ∀ x, x ∈ zs → ∀ w', Below w.heap.size w w' → Calls Try.prog g (#[.int .i64 x] ++ lb) w' fun e w2 => e = .returned (.bool (pr x)) ∧ Below w'.heap.size w' w2) :
    Calls Try.prog 62 #[.slice A zs.length c, .func (.func g) #[] lb] w fun e w' => e = .returned (.int .i64 (idxE pr zs)) ∧ Below w.heap.size w w' := by
  go_enter Try.func62, Try.ntmps62
  go_wp2
  go_loopw [8] (fun i wr => ∃ k : Nat, k ≤ zs.length ∧ i = .int .i64 k ∧ Hid (∀ j y, j < k → zs[j]? = some y → pr y = false) ∧ Below w.heap.size w wr) (fun i _ => zs.length - (intOf i).toNat)
  case atStart => exact ⟨0, Nat.zero_le _, rfl, fun j _ hj => absurd hj (Nat.not_lt_zero j), Below.refl _ _⟩
  case round =>
    obtain ⟨k, hk, rfl, H, hbw⟩ := hrel
    by_cases hlt : k < zs.length
    · obtain ⟨b, off, z, rfl, hB, hr, q0⟩ := hs.at_ hlt
      have c0 := (bcell hbw hB _).trans q0
      have hcall := hp z (List.mem_of_getElem? hr) wr hbw
      have HR : Hid (zs[k]? = some z) := hr
      clear hr hs hp q0
      cases hq : pr z with
      | true =>
        rw [hq] at hcall
        have HQ : Hid (pr z = true) := hq
        clear hq
        go_wp2_with (go_at_fn g; refine hcall.mono ?_; rintro e w' ⟨rfl, hb1⟩)
        go_ret
        exact ⟨ret_int (idxE_hit HR.out HQ.out H.out).symm, hbw.trans (hb1.mono hbw.size)⟩
      | false =>
        rw [hq] at hcall
        have HQ : Hid (pr z = false) := hq
        clear hq
        go_wp2_with (go_at_fn g; refine hcall.mono ?_; rintro e w' ⟨rfl, hb1⟩)
        go_roundw
        case rel =>
          refine ⟨k + 1, by omega, by go_num, fun j y hj hy => ?_, hbw.trans (hb1.mono hbw.size)⟩
          by_cases e : j = k
          · subst e; rw [HR.out] at hy; injection hy with hy; subst hy; exact HQ.out
          · exact H.out j y (by omega) hy
        case measure => simp [intOf]; omega
    · have HE : Hid (idxE pr zs = -1) := idxE_none (fun j y hj => H.out j y (by omega))
      clear H hs hp
      go_wp2
      go_ret
      exact ⟨ret_int HE.out.symm, hbw⟩
theorem find_at {α : Type} {f : α → Bool} : ∀ {l : List α} {x : α}, l.find? f = some x → ∃ k : Nat, l[k]? = some x ∧ f x = true ∧ ∀ (j : Nat) (y : α), j < k → l[j]? = some y → f y = false := fun {l x} h => by
  obtain ⟨h1, k, hk, e, h2⟩ := List.find?_eq_some_iff_getElem.1 h
  refine ⟨k, by rw [List.getElem?_eq_getElem hk, e], h1, fun j y hj hy => ?_⟩
  obtain ⟨hj2, e2⟩ := List.getElem?_eq_some_iff.1 hy
  have := h2 j hj
  rw [e2] at this
  simpa using this
set_option maxHeartbeats 4000000 in
theorem least_any (g : Nat) (lb : Array Value) (eg : ∀ args w, (callFunc g args).run Try.prog w = .ok (.enter g args) w) (pr : Int → Bool) (A : Option Addr) (c : Nat) (zs : List Int) (w : World)
    (hs : SlI w w.heap.size A zs) (hn : zs.length ≤ 1000000) (hp : ∀ x, x ∈ zs → ∀ w', Below w.heap.size w w' → Calls Try.prog g (#[.int .i64 x] ++ lb) w' fun e w2 => e = .returned (.bool (pr x)) ∧ Below w'.heap.size w' w2) :
    Calls Try.prog 29 #[.slice A zs.length c, .func (.func g) #[] lb] w fun e w' => NxPost w ((sortZ zs).find? pr) e w' := by
  have hb1 := al_t w (.cells #[.slice A zs.length c] 22)
  have HB := Lib.hid hb1
  have HV := Lib.hid (values_any A zs.length c w)
  have HSo := Lib.hid (sorted_any w.heap.size A c zs hn (w.alloc (.cells #[.slice A zs.length c] 22)) (by simp) (cell_new rfl rfl rfl) ((hs.below hb1).more hb1.size))
  have HP := Lib.hid (fun (x : Int) (hx : x ∈ sortZ zs) (w' : World) (hb : Below w.heap.size w w') => hp x (sortZ_mem.1 hx) w' hb)
  obtain ⟨Z, hZ⟩ : ∃ Z, Z = sortZ zs := ⟨_, rfl⟩
  have hzl : Z.length ≤ 1000000 := by rw [hZ, sortZ_len]; exact hn
  rw [← hZ] at HSo ⊢
  simp only [← hZ] at HP
  obtain ⟨R, hR⟩ : ∃ R, R = Z.find? pr := ⟨_, rfl⟩
  rw [← hR]
  have HR := Lib.hid hR
  clear hs hp hb1 hZ hR
  go_enter Try.func29, Try.ntmps29
  go_wp2_with fail
  refine HV.out.mono ?_
  rintro e w1 ⟨rfl, rfl⟩
  go_wp2_with fail
  refine HSo.out.mono ?_
  rintro e w2 ⟨v, rfl, hown, hb2⟩
  have hb12 := HB.out.trans (hb2.mono HB.out.size)
  obtain ⟨av, cv, rfl⟩ : ∃ a c, v = .slice a Z.length c := by
    rcases hown.2 with ⟨rfl, e⟩ | ⟨g, cap, cur, rfl, -⟩
    · rw [e]; exact ⟨none, 0, rfl⟩
    · exact ⟨_, _, rfl⟩
  have hsl := hown.slI
  have HI := Lib.hid (idxJ_any g lb eg pr av cv Z w2 hsl (by omega) (fun x hx w' hb => HP.out x hx w' (hb12.trans (hb.mono hb12.size))))
  have HSl := Lib.hid hsl
  have HB2 := Lib.hid hb12
  clear hown hb2 hb12 hsl HV HSo HP eg
  cases hf : R with
  | none =>
    rw [hf] at HR
    have hix : idxE pr Z = -1 := idxE_none (fun j y hj hy => by
      have := List.find?_eq_none.1 HR.out.symm y (List.mem_of_getElem? hy)
      simpa using this)
    rw [hix] at HI
    have HF := Lib.hid hf
    clear hix HSl hf
    go_wp2_with ((go_at_call 62; refine HI.out.mono ?_; rintro e w3 ⟨rfl, hb3⟩))
    go_ret2
    exact NxPost.none_ HF.out (HB2.out.trans (hb3.mono HB2.out.size))
  | some x =>
    rw [hf] at HR
    obtain ⟨k, hk, hx, hlt⟩ := find_at HR.out.symm
    have hix : idxE pr Z = (k : Int) := idxE_hit hk hx hlt
    rw [hix] at HI
    have hkl := (List.getElem?_eq_some_iff.1 hk).1
    obtain ⟨b, off, z, rfl, hbl, hz, hcz⟩ := HSl.out.at_ hkl
    rw [hk] at hz
    obtain rfl : x = z := by simpa using hz
    have HCz := Lib.hid (And.intro hcz hbl)
    have hk0 : decide ((k : Int) < 0) = false := decide_eq_false (by omega)
    have HF := Lib.hid hf
    clear hix hz hcz hk hx hlt hf HSl
    go_wp2_with ((go_at_call 62; refine HI.out.mono ?_; rintro e w3 ⟨rfl, hb3⟩; have hc3 := (bcell hb3 HCz.out.2 _).trans HCz.out.1))
    go_ret2
    exact NxPost.some_ HF.out (HB2.out.trans (hb3.mono HB2.out.size))
end Go.Proofs.Ytflpikickbellaa
