/- Layer 32: the program's May: plain; its closures. -/
import Derived.Test.YtflpikickbellaaKPd
namespace Go.Proofs.Ytflpikickbellaa
open Go.RowKit Go.Shelf Go.Sort
set_option maxRecDepth 100000

/-! Plain. -/
def inM (s : Sft) (come : Nat → Bool) (x : Int) : Bool := decide (0 ≤ x) && (decide (x < (s.n : Int)) && waitN s come x.toNat)
def leftM (s : Sft) (come : Nat → Bool) (last x : Int) : Bool := decide (offN s x.toNat ≠ last) && hasN s come last
def preM (s : Sft) (come : Nat → Bool) (x : Int) : Bool := s.first.any fun p => decide (p.2 = x) && waitN s come p.1.toNat
/-- The rest of a list, from a state on. -/
def mayS (s : Sft) : (Nat → Bool) → Int → List Int → Bool
  | come, _, [] => decide (stopsN s come = [])
  | come, last, x :: l => if inM s come x && !(leftM s come last x) && !(preM s come x) then mayS s (putN come x.toNat) (offN s x.toNat) l else false
theorem mayS_in {s : Sft} {come : Nat → Bool} {last x : Int} {l : List Int} (h : inM s come x = false) : mayS s come last (x :: l) = false := by unfold mayS; rw [h]; rfl
theorem mayS_left {s : Sft} {come : Nat → Bool} {last x : Int} {l : List Int} (h : leftM s come last x = true) : mayS s come last (x :: l) = false := by unfold mayS; rw [h]; simp
theorem mayS_pre {s : Sft} {come : Nat → Bool} {last x : Int} {l : List Int} (h : preM s come x = true) : mayS s come last (x :: l) = false := by unfold mayS; rw [h]; simp
theorem mayS_go {s : Sft} {come : Nat → Bool} {last x : Int} {l : List Int} (h1 : inM s come x = true) (h2 : leftM s come last x = false) (h3 : preM s come x = false) : mayS s come last (x :: l) = mayS s (putN come x.toNat) (offN s x.toNat) l := by
  show (if inM s come x && !(leftM s come last x) && !(preM s come x) then _ else _) = _
  rw [h1, h2, h3]; rfl
/-- What May answers. -/
def mayE (s : Sft) (order : List Int) : Bool × Int := if sftE s ≠ 0 then (false, sftE s) else (mayS s (fun _ => false) 9 order, 0)
/-! Its closures. -/
set_option maxHeartbeats 2000000 in
theorem pmay1_any (A F : Option Addr) (c fc : Nat) (s : Sft) (mb wb ib : Nat) (hs : SftOk s) (come : Nat → Bool) (x : Int) (p : Int × Int) (hp : p ∈ s.first) (w : World) (h : WkBx wb A F c fc s mb w) (hi : w.cell? ⟨ib, 0, none⟩ = some (.int .i64 x)) (hw : WtA mb s come w) :
    Calls Try.prog 57 #[pairV p, .pointer (some ⟨ib, 0, none⟩), .pointer (some ⟨wb, 0, none⟩)] w fun e w' => e = .returned (.bool (decide (p.2 = x) && waitN s come p.1.toNat)) ∧ Below w.heap.size w w' := by
  obtain ⟨f1, f2, -⟩ := hs.first p hp
  obtain ⟨a, b⟩ := p
  simp only at f1 f2 ⊢
  obtain ⟨i, rfl⟩ : ∃ i : Nat, a = (i : Int) := ⟨a.toNat, by omega⟩
  have e2 : ((i : Int)).toNat = i := by omega
  rw [e2]
  have hal := al_t w (.cells #[.int .i64 (i : Int), .int .i64 b] 63)
  have h1 := h.to hal
  have c0 := h1.c0
  have c1 := h1.c1
  have c2 := h1.c2
  have q0 : (w.alloc (.cells #[.int .i64 (i : Int), .int .i64 b] 63)).cell? ⟨w.heap.size, 0, none⟩ = some (.int .i64 (i : Int)) := cell_new rfl rfl rfl
  have q1 : (w.alloc (.cells #[.int .i64 (i : Int), .int .i64 b] 63)).cell? ⟨w.heap.size, 1, none⟩ = some (.int .i64 b) := cell_new rfl rfl rfl
  have qi := cell_al hi (.cells #[.int .i64 (i : Int), .int .i64 b] 63)
  have HW := Lib.hid (pwaiting_any A F c fc s mb hs come i (by omega) _ h1.at_ (hw.to hal))
  have HB := Lib.hid hal
  obtain ⟨r, hr⟩ : ∃ r, r = waitN s come i := ⟨_, rfl⟩
  rw [← hr] at HW ⊢
  clear hal h1 h hi hw hr e2 hp f1 f2 hs
  by_cases e : b = x
  case pos =>
    have d1 : (b == x) = true := by simpa using e
    have HR : Hid ((decide (b = x) && r) = r) := by show _ = _; rw [decide_eq_true e]; rfl
    clear e
    go_enter Try.func57, Try.ntmps57
    go_wp2_with ((go_at_call 36; refine HW.out.mono ?_; rintro e w3 ⟨rfl, hb3⟩))
    go_ret
    exact ⟨ret_bool HR.out.symm, HB.out.trans (hb3.mono HB.out.size)⟩
  case neg =>
    have d1 : (b == x) = false := by simpa using e
    have HR : Hid ((decide (b = x) && r) = false) := by show _ = _; rw [decide_eq_false e]; rfl
    clear e HW
    go_enter Try.func57, Try.ntmps57
    go_wp2
    go_ret
    exact ⟨ret_bool HR.out.symm, HB.out⟩
theorem pdel2_any (x next : Int) (nb : Nat) (w : World) (h : w.cell? ⟨nb, 0, none⟩ = some (.int .i64 next)) :
    Calls Try.prog 58 #[.int .i64 x, .pointer (some ⟨nb, 0, none⟩)] w fun e w' => e = .returned (.bool (x == next)) ∧ w = w' := by
  go_enter Try.func58, Try.ntmps58
  go_wp2
  go_ret
  exact ⟨by first | rfl | trivial, rfl⟩
section
variable {W0 W : World} {wb mb : Nat} {A F : Option Addr} {c fc : Nat} {s : Sft} {come : Nat → Bool} {out : List Int} {v : Value} {bx : List (Nat × Value)} {n : Nat} {G : Int → Option Value}
set_option maxHeartbeats 1000000 in
/-- w.waits[t] = slices.DeleteFunc(w.waits[t], ..), in two steps. -/
theorem PoA.del2 (h : PoA W0 wb mb A F c fc s come out v bx n G W) {t : Int} {i nb : Nat} (ho : offN s i = t) (ht : wfK t) (hbx : (nb, .int .i64 (i : Int)) ∈ bx) (hs : s.n ≤ 1000) (hn : n ≤ 200000) {a : Option Addr} {k : Nat} (hv : vRow G t = .slice a (waitsN s come t).length k) :
    Calls Try.prog 39 #[.slice a (waitsN s come t).length k, .func (.func 58) #[] #[.pointer (some ⟨nb, 0, none⟩)]] W fun e w2 =>
      ∃ A' n' k', e = .returned (.slice A' n' k') ∧ (∀ p ∈ bx, w2.cell? ⟨p.1, 0, none⟩ = some p.2) ∧ w2.cell? ⟨wb, 2, none⟩ = some (.map (some mb)) ∧
        ∀ W3, Below w2.heap.size w2 W3 → ∃ w4, (Instr.mapUpdate 70 (.map (some mb)) (.int .i64 t) (.slice A' n' k')).run Try.prog W3 = .ok () w4 ∧ PoA W0 wb mb A F c fc s (putN come i) out v bx (n + 1) (upd G t (some (.slice A' n' k'))) w4 := by
  obtain ⟨b1, b2, -, -⟩ := h.box _ hbx
  have hrow := h.mp.row t
  rw [hv] at hrow
  have hwl := waitsN_len s come t
  have hne := b2 t
  rw [hv] at hne
  refine (delF_any 58 #[.pointer (some ⟨nb, 0, none⟩)] (enters_of Try.func58 (by kernel_rfl) rfl) (fun x => x == (i : Int)) nb (.int .i64 (i : Int)) W0.heap.size k a (waitsN s come t) (by omega) W hrow hne b1 (fun x W' hc => (pdel2_any x (i : Int) nb W' hc).mono fun e w2 h => ⟨h.1, h.2.symm⟩)).mono ?_
  rintro e w2 ⟨v', rfl, ho', hg, hnb⟩
  obtain ⟨A', k', rfl, -⟩ := own_slice ho'
  have hg' : W.grownBy w2 (vRow G t).ownBlock := by rw [hv]; exact hg
  have kp : ∀ {b o : Nat} {u : Value}, W.cell? ⟨b, o, none⟩ = some u → (vRow G t).ownBlock ≠ some b → w2.cell? ⟨b, o, none⟩ = some u := fun h1 h2 => hg'.cell h1 (fun e => h2 e.symm)
  have hsame : ∀ j, (Value.slice A' ((waitsN s come t).filter fun x => !(x == (i : Int))).length k').ownBlock = some j → (vRow G t).ownBlock = some j := fun j e => by rw [hv]; exact hnb j e
  have hT := h.mp.turn (t := t) (v := .slice A' ((waitsN s come t).filter fun x => !(x == (i : Int))).length k') (l := (waitsN s come t).filter fun x => !(x == (i : Int))) hg' ho' (fun j e => Or.inl (hsame j e))
  have hlo2 : Below W0.heap.size W0 w2 := h.lo.grown hg' h.lo.size (fun j e => (h.mp.lt t j e).1)
  have hown2 : ownI w2 W0.heap.size v out := World.ownsRow.kept h.own hg' (by
    cases e : v.ownBlock with
    | none => exact Or.inl rfl
    | some j => exact Or.inr fun e2 => h.av t j e e2.symm)
  refine ⟨A', _, k', rfl, fun p hp => kp (h.box p hp).1 ((h.box p hp).2.1 t), kp h.c2 (h.aw t), fun W3 hb3 => ?_⟩
  obtain ⟨w4, h4, hm4, hg4⟩ := (hT.to hb3).put (by unfold maxLen; omega) ht
  have kp4 : ∀ {b o : Nat} {u : Value}, W.cell? ⟨b, o, none⟩ = some u → (vRow G t).ownBlock ≠ some b → mb ≠ b → w4.cell? ⟨b, o, none⟩ = some u := fun h1 h2 h3 =>
    hg4.cell ((bcell hb3 (lt_of_cell (kp h1 h2)) _).trans (kp h1 h2)) (fun e => h3 (Option.some.inj e).symm)
  have hrowb : ∀ u j, (vRow (upd G t (some (.slice A' ((waitsN s come t).filter fun x => !(x == (i : Int))).length k'))) u).ownBlock = some j → (vRow G u).ownBlock = some j := fun u j e => by
    by_cases hu : u = t
    · subst hu; rw [vRow_same] at e; exact hsame j e
    · rwa [vRow_other _ _ hu] at e
  refine ⟨w4, h4, kp4 h.c0 (h.aw t) h.mw, kp4 h.c1 (h.aw t) h.mw, kp4 h.c2 (h.aw t) h.mw, (hlo2.trans (hb3.mono hlo2.size)).grown hg4 (Nat.le_trans hlo2.size hb3.size) (fun j e => by cases e; exact h.mp.lo), ?_, (own_below hown2 hb3 (Nat.le_refl _)).kept hg4 (Or.inr h.vm), fun u e => h.aw u (hrowb u _ e), fun u j hj e => h.av u j hj (hrowb u j e), h.vw, h.vm, h.mw, fun p hp => ?_⟩
  · rw [waits_put ho]; exact hm4
  · obtain ⟨h1, h2, h3, h5⟩ := h.box p hp
    exact ⟨kp4 h1 (h2 t) h5, fun u e => h2 u (hrowb u _ e), h3, h5⟩
theorem premay_any {pb ib : Nat} {x : Int} (hs : SftOk s) (hf : s.first.length ≤ 4611686018427387904) (hsb : SfBx pb A F c fc s W0) (h : PoA W0 wb mb A F c fc s come out v bx n G W) (hbx : (ib, .int .i64 x) ∈ bx) :
    Calls Try.prog 33 #[.slice F s.first.length fc, .func (.func 57) #[] #[.pointer (some ⟨ib, 0, none⟩), .pointer (some ⟨wb, 0, none⟩)]] W fun e w' => e = .returned (.bool (preM s come x)) ∧ Below W.heap.size W w' :=
  contP_any 57 #[.pointer (some ⟨ib, 0, none⟩), .pointer (some ⟨wb, 0, none⟩)] (enters_of Try.func57 (by kernel_rfl) rfl) (fun p => decide (p.2 = x) && waitN s come p.1.toNat) F fc s.first W (hsb.to h.lo).at_.fr hf (fun p hp w' hb => by
    have h2 := h.to hb
    exact pmay1_any A F c fc s mb wb ib hs come x p hp w' (h2.wk hsb.at_) (h2.box _ hbx).1 h2.wt)
end
end Go.Proofs.Ytflpikickbellaa
