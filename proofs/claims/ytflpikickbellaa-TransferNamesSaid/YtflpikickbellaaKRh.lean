/- Layer 32: the reference's Held. -/
import Derived.Test.YtflpikickbellaaKRt7
import Derived.Test.YtflpikickbellaaKG11
import Derived.Test.YtflpikickbellaaKG10
import Derived.Deep.DeepCutAuto
namespace Go.Proofs.Ytflpikickbellaa
open Go.RowKit Go.Shelf Go.Sort
set_option maxRecDepth 100000

/-! A needle's loops, one by one. -/
def baseB (s : Sft) (t : Nat) : Bool := decide (t < s.n) && (decide (s.to_.getD t 0 = (t : Int)) && !movedN s t)
def baseC (s : Sft) (t : Nat) : List Int := if baseB s t then [(t : Int)] else []
def heldK (s : Sft) (l : List Int) (t k : Nat) : List Int := baseC s t ++ (l.take k).filter fun x => decide (s.to_.getD x.toNat 0 = (t : Int))
theorem baseC_len (s : Sft) (t : Nat) : (baseC s t).length ≤ 1 := by unfold baseC; split <;> simp
theorem heldK_zero (s : Sft) (l : List Int) (t : Nat) : heldK s l t 0 = baseC s t := by unfold heldK; rw [List.take_zero, List.filter_nil, List.append_nil]
theorem heldK_next {s : Sft} {l : List Int} {t k : Nat} {x : Int} (h : l[k]? = some x) : heldK s l t (k + 1) = heldK s l t k ++ if s.to_.getD x.toNat 0 = (t : Int) then [x] else [] := by
  obtain ⟨hk, e⟩ := List.getElem?_eq_some_iff.1 h
  unfold heldK
  rw [List.take_succ_eq_append_getElem hk, e, List.filter_append, List.append_assoc]
  congr 2
  by_cases hx : s.to_.getD x.toNat 0 = (t : Int)
  · rw [if_pos hx, List.filter_cons_of_pos (by rw [decide_eq_true hx])]; rfl
  · rw [if_neg hx, List.filter_cons_of_neg (by rw [decide_eq_false hx]; simp)]; rfl
theorem heldK_len (s : Sft) (l : List Int) (t k : Nat) : (heldK s l t k).length ≤ k + 1 := by
  unfold heldK
  rw [List.length_append]
  have h1 := baseC_len s t
  have h2 := List.length_filter_le (fun x : Int => decide (s.to_.getD x.toNat 0 = (t : Int))) (l.take k)
  rw [List.length_take] at h2
  omega
theorem heldK_all (s : Sft) (l : List Int) (t : Nat) : heldK s l t l.length = heldC s l t := by
  unfold heldK heldC baseC baseB
  rw [List.take_length]
  congr 1
  by_cases h : t < s.n ∧ s.to_.getD t 0 = (t : Int) ∧ movedN s t = false
  · rw [if_pos h, decide_eq_true h.1, decide_eq_true h.2.1, h.2.2]; rfl
  · rw [if_neg h]
    rw [if_neg]
    intro hb
    simp only [Bool.and_eq_true, decide_eq_true_eq, Bool.not_eq_true'] at hb
    exact h hb
theorem hldE_e {s : Sft} (h : (plndE s).2 ≠ 0) : hldE s = ([], (plndE s).2) := by unfold hldE; rw [if_pos h]
theorem hldE_ok {s : Sft} (h : (plndE s).2 = 0) : hldE s = (heldN s (plndE s).1 101, 0) := by unfold hldE; rw [if_neg (by simpa using h)]
/-! The needles so far. -/
structure HdA (W1 : World) (v : Value) (N : List (Nat × List Int)) (W : World) : Prop where
  own : ∃ hv, hv.map Prod.fst = N.map hkOf ∧ HksO W W1.heap.size v hv
  lo : Below W1.heap.size W1 W
theorem HdA.new (W1 : World) : HdA W1 (.slice none 0 0) [] W1 := ⟨⟨[], rfl, HksO.new _ _⟩, Below.refl _ _⟩
theorem HdA.to {W1 W W' : World} {v : Value} {N : List (Nat × List Int)} (h : HdA W1 v N W) (hb : Below W.heap.size W W') : HdA W1 v N W' := by
  obtain ⟨hv, h1, h2⟩ := h.own
  exact ⟨⟨hv, h1, h2.to hb⟩, h.lo.trans (hb.mono h.lo.size)⟩
theorem HdA.form {W1 W : World} {v : Value} {N : List (Nat × List Int)} (h : HdA W1 v N W) : ∃ a c, v = .slice a N.length c := by
  obtain ⟨hv, h1, h2⟩ := h.own
  obtain ⟨a, c, e, -⟩ := h2.form
  have := congrArg List.length h1
  rw [List.length_map, List.length_map] at this
  exact ⟨a, c, by rw [e, this]⟩
theorem HdA.lt {W1 W : World} {v : Value} {N : List (Nat × List Int)} (h : HdA W1 v N W) {b : Nat} (hb : v.ownBlock = some b) : b < W.heap.size := by
  obtain ⟨hv, h1, h2⟩ := h.own
  exact (h2.lt hb).2
theorem HdA.end_ {W1 W : World} {a : Option Addr} {n c : Nat} {N : List (Nat × List Int)} (h : HdA W1 (.slice a n c) N W) : SlHk W W.heap.size a (N.map hkOf) := by
  obtain ⟨hv, h1, h2⟩ := h.own
  rw [← h1]; exact h2.slHk
theorem HdA.push {W1 W : World} {a : Option Addr} {c : Nat} {N : List (Nat × List Int)} (h : HdA W1 (.slice a N.length c) N W) (hl : N.length ≤ 1000) (t : Nat) (l : List Int) {A : Option Addr} {C : Nat} (hC : l.length ≤ C) (hs : SlIv W (.slice a N.length c) A l) :
    ∃ A' c' w', (Builtin.append_ #[37, 37] 37 #[.slice a N.length c, .slice (some ⟨W.heap.size, 0, none⟩) 1 1]).run Try.prog (W.alloc (.cells #[.int .u8 0, .int .i64 (t : Int), .slice A l.length C] 68)) = .ok (.slice A' (N.length + 1) c') w' ∧ HdA W1 (.slice A' (N.length + 1) c') (N ++ [(t, l)]) w' := by
  obtain ⟨hv, h1, h2⟩ := h.own
  have e := congrArg List.length h1
  rw [List.length_map, List.length_map] at e
  rw [← e] at h2 hs hl ⊢
  obtain ⟨A', c', w', hr, ho, hb⟩ := h2.push h.lo.size hl (hkOf (t, l)) (A := A) (C := C) hC hs
  exact ⟨A', c', w', hr, ⟨_, by rw [List.map_append, List.map_append, h1]; rfl, ho⟩, h.lo.trans hb⟩
/-- A row of numbers that grows beside. -/
structure OnA (W3 : World) (v : Value) (L : List Int) (W : World) : Prop where
  own : Owns W W3.heap.size [pxJ v L]
  lo : Below W3.heap.size W3 W
theorem OnA.new (W3 : World) : OnA W3 (.slice none 0 0) [] W3 := ⟨Owns.nil.none 3 1, Below.refl _ _⟩
theorem OnA.to {W3 W W' : World} {v : Value} {L : List Int} (h : OnA W3 v L W) (hb : Below W.heap.size W W') : OnA W3 v L W' := ⟨h.own.to hb, h.lo.trans (hb.mono h.lo.size)⟩
theorem OnA.app {W3 W : World} {a : Option Addr} {c : Nat} {L : List Int} (h : OnA W3 (.slice a L.length c) L W) (hl : L.length ≤ 100000) (x : Int) :
    ∃ A' c' w', (Builtin.append_ #[22, 22] 22 #[.slice a L.length c, .slice (some ⟨W.heap.size, 0, none⟩) 1 1]).run Try.prog (W.alloc (.cells #[.int .i64 x] 3)) = .ok (.slice A' (L.length + 1) c') w' ∧ OnA W3 (.slice A' (L.length + 1) c') (L ++ [x]) w' := by
  obtain ⟨A', c', w', hr, ho, hb⟩ := pxJ_app h.own h.lo.size hl x
  exact ⟨A', c', w', hr, ho, h.lo.trans hb⟩
/-- The row as a slice, in a block that is not an older one. -/
theorem OnA.slv {W3 W : World} {a : Option Addr} {c : Nat} {L : List Int} (h : OnA W3 (.slice a L.length c) L W) {v : Value} (hv : ∀ b, v.ownBlock = some b → b < W3.heap.size) : L.length ≤ c ∧ SlIv W v a L := by
  have h0 : W.ownsRow W3.heap.size 3 1 (.slice a L.length c) L.length (L.map (Value.int .i64)) := h.own.head
  obtain ⟨a', c', e, hc⟩ := own_slice h0
  cases e
  refine ⟨hc, fun hn => ?_⟩
  have h1 := h0
  rcases h0.2 with ⟨-, e⟩ | ⟨g, cap, cur, hv2, hg, hh, -⟩
  · exact absurd (List.length_eq_zero_iff.1 e) hn
  · cases hv2
    refine ⟨g, 0, rfl, (Array.getElem?_eq_some_iff.1 hh).1, fun e => by have := hv g e; omega, fun j z hz => ?_⟩
    have hj := (List.getElem?_eq_some_iff.1 hz).1
    rw [Nat.zero_add, World.ownsRow.cellAt h1 j (by omega), List.getElem?_map, hz]
    rfl
theorem HdPost.none {w w' : World} {R : List (Nat × List Int) × Int} {x : Int} (h : R = ([], x)) (hb : Below w.heap.size w w') : HdPost w R (.returned (.tuple #[.slice none 0 0, .int .i64 x])) w' := by
  subst h
  exact ⟨Option.none, 0, rfl, fun h => absurd rfl h, hb⟩
theorem HdPost.some_ {w w' : World} {R : List (Nat × List Int) × Int} {N : List (Nat × List Int)} {n : Nat} {a : Option Addr} {c : Nat} (h : R = (N, 0)) (hn : n = N.length) (hs : SlHk w' w'.heap.size a (N.map hkOf)) (hb : Below w.heap.size w w') : HdPost w R (.returned (.tuple #[.slice a n c, .int .i64 0])) w' := by
  subst h hn
  exact ⟨a, c, rfl, hs, hb⟩
set_option maxHeartbeats 16000000 in
theorem rheld_any (A F : Option Addr) (c fc : Nat) (s : Sft) (hl : s.to_.length ≤ 4611686018427387904) (hf : s.first.length ≤ 4611686018427387904) (w : World) (h : SfAt A F s w) :
    Calls Try.prog 14 #[sftV A F c fc s] w fun e w' => HdPost w (hldE s) e w' := by
  have hb0 := al_t w (sftB A F c fc s)
  have HX0 : Hid (SfBx w.heap.size A F c fc s (w.alloc (sftB A F c fc s)) ∧ Below w.heap.size w (w.alloc (sftB A F c fc s))) := ⟨SfBx.new c fc h, hb0⟩
  have c0 := HX0.out.1.c0
  have c1 := HX0.out.1.c1
  have HO := Lib.hid (rplnd_any A F c fc s hl hf _ HX0.out.1.at_)
  obtain ⟨r, hr⟩ : ∃ r, r = hldE s := ⟨_, rfl⟩
  rw [← hr]
  clear h hb0
  by_cases hE : (plndE s).2 = 0
  case neg =>
    have HR : Hid (r = ([], (plndE s).2)) := by show _ = _; rw [hr, hldE_e hE]
    have d0 : ((plndE s).2 != 0) = true := by simpa using hE
    have HO2 := Lib.hid (show Calls _ _ _ _ fun e w' => ∃ a n k, e = .returned (.tuple #[.slice a n k, .int .i64 (plndE s).2]) ∧ Below (w.alloc (sftB A F c fc s)).heap.size (w.alloc (sftB A F c fc s)) w' from Calls.mono HO.out fun e w' ⟨a, k, he, _, hb⟩ => ⟨a, _, k, he, hb⟩)
    obtain ⟨x, hx⟩ : ∃ x, x = (plndE s).2 := ⟨_, rfl⟩
    rw [← hx] at HR d0 HO2
    clear hr hE hx HO
    go_enter Try.func14, Try.ntmps14
    go_wp2_with fail
    refine HO2.out.mono ?_
    rintro e w1 ⟨a, n, k, rfl, hb1⟩
    have HB := Lib.hid (HX0.out.2.trans (hb1.mono HX0.out.2.size))
    clear hb1
    go_wp2
    go_ret2
    exact HdPost.none HR.out HB.out
  case pos =>
  obtain ⟨hle, hsz⟩ := plndE_l hE
  have hs := sftE_ok hsz
  have HS := Lib.hid hs
  have hn40 : s.to_.length ≤ 40 := hs.len
  have HOk : Hid (r = (heldN s (plndE s).1 101, 0)) := hr.trans (hldE_ok hE)
  have HO2 := Lib.hid (show Calls _ _ _ _ fun e w' => ∃ a k, e = .returned (.tuple #[.slice a (plndE s).1.length k, .int .i64 0]) ∧ SlI w' w'.heap.size a (plndE s).1 ∧ Below (w.alloc (sftB A F c fc s)).heap.size (w.alloc (sftB A F c fc s)) w' from Calls.mono HO.out fun e w' ⟨a, k, he, hsl, hb⟩ => ⟨a, k, by rw [he, hE], hsl, hb⟩)
  have hok := ordE_ok s
  rw [← hle] at hok
  obtain ⟨l, hlE⟩ : ∃ l, l = (plndE s).1 := ⟨_, rfl⟩
  rw [← hlE] at HO2 HOk hok
  have HLk := Lib.hid hok.1
  have hll : l.length ≤ 40 := Nat.le_trans hok.2 hn40
  obtain ⟨pb, hpb⟩ : ∃ pb, pb = w.heap.size := ⟨_, rfl⟩
  clear hr hE hs HO hlE hle hsz hok
  go_enter Try.func14, Try.ntmps14
  go_upto_region 4 with ((go_at_call 48; refine HO2.out.mono ?_; rintro e w1 ⟨a, kc, rfl, hsl, hb1⟩))
  refine abs_world (Q := fun W => Code.wp _ _ _ _ W) (F := fun W => SfBx w.heap.size A F c fc s W ∧ SlI W W.heap.size a l ∧ Below w.heap.size w W) _ ⟨HX0.out.1.to hb1, hsl, HX0.out.2.trans (hb1.mono HX0.out.2.size)⟩ ?_
  clear HX0 c0 c1 hb1 hsl HO2
  rintro W1 ⟨hx, hsl, hb1⟩
  rw [← hpb] at hx ⊢
  have HXs : Hid (∀ W, Below W1.heap.size W1 W → SfBx pb A F c fc s W ∧ SlI W W.heap.size a l ∧ Below w.heap.size w W) := fun W hb => ⟨hx.to hb, (hsl.below hb).more hb.size, hb1.trans (hb.mono hb1.size)⟩
  clear hx hsl hb1 hpb
  go_wp2
  go_loopw [6, 7] (fun s6 s7 wr => ∃ t : Nat, t ≤ 101 ∧ s7 = .int .i64 (t : Int) ∧ Hid (HdA W1 s6 (heldN s l t) wr)) (fun _ s7 _ => 101 - (intOf s7).toNat)
  case atStart => exact ⟨0, by omega, rfl, HdA.new W1⟩
  case round =>
    obtain ⟨t, ht, rfl, HP⟩ := hrel
    obtain ⟨W3, hW3⟩ : ∃ W3 : World, W3 = wr := ⟨_, rfl⟩
    rw [← hW3] at HP ⊢
    clear hW3
    obtain ⟨a6, c6, rfl⟩ := HP.out.form
    have c0 := (HXs.out W3 HP.out.lo).1.c0
    have c1 := (HXs.out W3 HP.out.lo).1.c1
    have hnl := heldN_len s l t
    by_cases htl : (t : Int) ≤ 100
    case neg =>
      obtain rfl : t = 101 := by omega
      have HSl := Lib.hid HP.out.end_
      have HB := Lib.hid (HXs.out W3 HP.out.lo).2.2
      have dd : decide (((101 : Nat) : Int) ≤ 100) = false := by decide
      obtain ⟨n6, hn6⟩ : ∃ n, n = (heldN s l 101).length := ⟨_, rfl⟩
      have HN6 : Hid (n6 = (heldN s l 101).length) := hn6
      rw [← hn6]
      clear hn6 HP htl hnl ht
      go_wp2
      go_ret2
      exact HdPost.some_ HOk.out HN6.out HSl.out HB.out
    case pos =>
      have dd : decide ((t : Int) ≤ 100) = true := decide_eq_true htl
      have HNx := Lib.hid (heldN_next s l t)
      obtain ⟨N, hN⟩ : ∃ N, N = heldN s l t := ⟨_, rfl⟩
      rw [← hN] at HP HNx hnl ⊢
      clear hN
      go_upto_region 9 with fail
      go_cut [41] (fun s41 wx => s41 = .bool (baseB s t) ∧ Hid (Below W3.heap.size W3 wx))
      case first =>
        have HB : Hid (baseB s t = (decide (t < s.n) && (decide (s.to_.getD t 0 = (t : Int)) && !movedN s t))) := rfl
        obtain ⟨q, hq⟩ : ∃ q, q = baseB s t := ⟨_, rfl⟩
        have HqB := Lib.hid hq
        rw [← hq] at HB
        clear hq
        by_cases h1 : t < s.to_.length
        case neg =>
          have HQ : Hid (q = false) := by show _ = _; rw [HB.out, decide_eq_false (show ¬ t < s.n from h1)]; rfl
          have e1 : decide ((t : Int) < (s.to_.length : Int)) = false := decide_eq_false (by omega)
          clear HB
          go_wp2_with fail
          go_meet
          exact ⟨by rw [← HqB.out, HQ.out], Below.refl _ _⟩
        case pos =>
          obtain ⟨b, off, hA, hcl⟩ := (HXs.out W3 HP.out.lo).1.to_at h1
          have e1 : decide ((t : Int) < (s.to_.length : Int)) = true := decide_eq_true (by omega)
          have HM := Lib.hid (rmoved_any A F c fc s HS.out hf t h1 W3 (HXs.out W3 HP.out.lo).1.at_)
          have HB2 : Hid (q = (decide (s.to_.getD t 0 = (t : Int)) && !movedN s t)) := by show _ = _; rw [HB.out, decide_eq_true (show t < s.n from h1)]; rfl
          obtain ⟨z, hz⟩ : ∃ z, z = s.to_.getD t 0 := ⟨_, rfl⟩
          rw [← hz] at hcl HB2
          subst hA
          clear hz HB
          by_cases h2 : z = (t : Int)
          case neg =>
            have e2 : (z == (t : Int)) = false := by simpa using h2
            have HQ : Hid (q = false) := by show _ = _; rw [HB2.out, decide_eq_false h2]; rfl
            clear HB2 HM h2
            go_wp2_with fail
            go_meet
            exact ⟨by rw [← HqB.out, HQ.out], Below.refl _ _⟩
          case pos =>
            have e2 : (z == (t : Int)) = true := by simpa using h2
            have HQ : Hid (q = !movedN s t) := by show _ = _; rw [HB2.out, decide_eq_true h2]; rfl
            obtain ⟨m, hm⟩ : ∃ m, m = movedN s t := ⟨_, rfl⟩
            rw [← hm] at HQ HM
            clear HB2 h2 hm
            go_wp2_with ((go_at_call 27; refine HM.out.mono ?_; rintro e w4 ⟨rfl, hb4⟩))
            go_meet
            exact ⟨by rw [← HqB.out, HQ.out], hb4⟩
      case rest =>
        obtain ⟨rfl, HB4⟩ := hcut
        obtain ⟨W4, hW4⟩ : ∃ x : World, x = wc := ⟨_, rfl⟩
        rw [← hW4] at HB4 ⊢
        clear hW4
        have HBC : Hid (baseC s t = if baseB s t then [(t : Int)] else []) := rfl
        obtain ⟨q, hq⟩ : ∃ q, q = baseB s t := ⟨_, rfl⟩
        rw [← hq] at HBC ⊢
        have HP4 := Lib.hid (HP.out.to HB4.out)
        clear hq c0 c1 HB4 HP
        go_upto_if 41 with fail
        go_cut [8] (fun s8 wx => ∃ v8, v8 = s8 ∧ Hid (OnA W4 v8 (baseC s t) wx))
        case first =>
          cases q with
          | false =>
            have HBn : Hid (baseC s t = []) := HBC.out
            clear HBC
            go_wp2_with fail
            go_meet
            exact ⟨_, rfl, by show OnA _ _ _ _; rw [HBn.out]; exact OnA.new W4⟩
          | true =>
            have HBn : Hid (baseC s t = [] ++ [(t : Int)]) := HBC.out
            obtain ⟨A9, k9, v9, hr9, hO9⟩ := OnA.app (W3 := W4) (W := W4) (a := none) (c := 0) (L := []) (OnA.new W4) (Nat.zero_le _) (t : Int)
            have HO9 : Hid (OnA W4 (.slice A9 (0 + 1) k9) (baseC s t) v9) := by show OnA _ _ _ _; rw [HBn.out]; exact hO9
            have hr : (Builtin.append_ #[22, 22] 22 #[.slice none 0 0, .slice (some ⟨W4.heap.size, 0, none⟩) 1 1]).run Try.prog (W4.alloc (.cells #[.int .i64 (t : Int)] 3)) = .ok (.slice A9 (0 + 1) k9) v9 := hr9
            clear HBC hr9 hO9
            go_wp2_with (at_builtin; refine wpList_append_run _ rfl _ _ _ _ rfl _ _ (by rfl) (by rfl) hr ?_)
            go_meet
            exact ⟨_, rfl, HO9.out⟩
        case rest =>
          obtain ⟨v8, rfl, HO8⟩ := hcut
          obtain ⟨W5, hW5⟩ : ∃ x : World, x = wc := ⟨_, rfl⟩
          rw [← hW5] at HO8 ⊢
          clear hW5 HBC
          have HO0 : Hid (OnA W4 v8 (heldK s l t 0) W5) := by show OnA _ _ _ _; rw [heldK_zero]; exact HO8.out
          clear HO8
          go_wp2
          go_loopw [8, 9] (fun s8 s9 wr => ∃ k : Nat, k ≤ l.length ∧ s9 = .int .i64 (k : Int) ∧ Hid (OnA W4 s8 (heldK s l t k) wr)) (fun _ s9 _ => l.length - (intOf s9).toNat)
          case atStart => exact ⟨0, Nat.zero_le _, rfl, HO0.out⟩
          case round =>
            obtain ⟨k, hk, rfl, HO⟩ := hrel
            clear HO0
            obtain ⟨W6, hW6⟩ : ∃ x : World, x = wr := ⟨_, rfl⟩
            rw [← hW6] at HO ⊢
            clear hW6
            obtain ⟨a8, c8, rfl⟩ := pxJ_form HO.out.own
            have hkl := heldK_len s l t k
            by_cases hlt : k < l.length
            case pos =>
              have hP6 := HP4.out.to HO.out.lo
              obtain ⟨hx6, hs6, -⟩ := HXs.out W6 hP6.lo
              obtain ⟨b, off, x, hA, -, hx, hcx⟩ := hs6.at_ hlt
              obtain ⟨i, hxi, hil⟩ := HLk.out x (List.mem_of_getElem? hx)
              subst hxi
              have hil' : i < s.to_.length := hil
              have HNk := Lib.hid (heldK_next (s := s) (t := t) hx)
              obtain ⟨b2, off2, hA2, hcl⟩ := hx6.to_at hil
              have c0 := hx6.c0
              have c1 := hx6.c1
              have HDr : Hid (∀ m, Below W6.heap.size W6 (W6.drewN m)) := fun m => below_drewT (Below.refl _ _) m
              obtain ⟨z, hz⟩ : ∃ z, z = s.to_.getD i 0 := ⟨_, rfl⟩
              have HNk2 : Hid (heldK s l t (k + 1) = heldK s l t k ++ if z = (t : Int) then [(i : Int)] else []) := by show _ = _; rw [HNk.out, hz]; rfl
              rw [← hz] at hcl
              obtain ⟨L, hL⟩ : ∃ L, L = heldK s l t k := ⟨_, rfl⟩
              rw [← hL] at HO HNk2 hkl ⊢
              subst hA hA2
              clear hx hz HNk hP6 hx6 hs6 hL
              go_upto_region 14 with fail
              go_cut [61] (fun s61 wx => s61 = .bool (decide (z = (t : Int))) ∧ Hid (Below W6.heap.size W6 wx))
              case first =>
                by_cases e : z = (t : Int)
                · have d1 : (z == (t : Int)) = true := by simpa using e
                  have HD : Hid (decide (z = (t : Int)) = true) := decide_eq_true e
                  clear e HNk2
                  go_quiet (fail)
                  go_wp2_with fail
                  go_meet
                  exact ⟨by rw [HD.out], HDr.out _⟩
                · have d1 : (z == (t : Int)) = false := by simpa using e
                  have HD : Hid (decide (z = (t : Int)) = false) := decide_eq_false e
                  clear e HNk2
                  go_quiet (fail)
                  go_wp2_with fail
                  go_meet
                  exact ⟨by rw [HD.out], HDr.out _⟩
              case rest =>
                obtain ⟨rfl, HB7⟩ := hcut
                obtain ⟨W7, hW7⟩ : ∃ x : World, x = wc := ⟨_, rfl⟩
                rw [← hW7] at HB7 ⊢
                have HO7 := Lib.hid (HO.out.to HB7.out)
                have g := (bcell HB7.out (lt_of_cell hcx) _).trans hcx
                clear hW7 hcx hcl c0 c1 HDr
                by_cases e : z = (t : Int)
                case pos =>
                  have d1 : decide (z = (t : Int)) = true := decide_eq_true e
                  have HN3 : Hid (heldK s l t (k + 1) = L ++ [(i : Int)]) := by show _ = _; rw [HNk2.out, if_pos e]
                  obtain ⟨A9, k9, v9, hr9, hO9⟩ := HO7.out.app (by omega) (i : Int)
                  have HO9 : Hid (OnA W4 (.slice A9 (L.length + 1) k9) (heldK s l t (k + 1)) v9) := by show OnA _ _ _ _; rw [HN3.out]; exact hO9
                  generalize decide (z = (t : Int)) = dz at d1 ⊢
                  subst d1
                  clear e HNk2 HN3 hO9
                  go_wp2_with (at_builtin; refine wpList_append_run _ rfl _ _ _ _ rfl _ _ (by rfl) (by rfl) hr9 ?_)
                  go_roundw
                  case rel => exact ⟨k + 1, by omega, by go_num, HO9.out⟩
                  case measure => simp [intOf]; omega
                case neg =>
                  have d1 : decide (z = (t : Int)) = false := decide_eq_false e
                  have HN3 : Hid (heldK s l t (k + 1) = L) := by show _ = _; rw [HNk2.out, if_neg e, List.append_nil]
                  generalize decide (z = (t : Int)) = dz at d1 ⊢
                  subst d1
                  clear e HNk2 g
                  go_wp2
                  go_roundw
                  case rel => exact ⟨k + 1, by omega, by go_num, by show OnA _ _ _ _; rw [HN3.out]; exact HO7.out⟩
                  case measure => simp [intOf]; omega
            case neg =>
              obtain rfl : k = l.length := by omega
              have HE := Lib.hid (heldK_all s l t)
              have HP6 := Lib.hid (HP4.out.to HO.out.lo)
              obtain ⟨L, hL⟩ : ∃ L, L = heldK s l t l.length := ⟨_, rfl⟩
              rw [← hL] at HO HE hkl ⊢
              have HNx2 : Hid (heldN s l (t + 1) = N ++ if L ≠ [] then [(t, L)] else []) := by show _ = _; rw [HNx.out, ← HE.out]
              clear hL HE hk hlt
              by_cases hne : L = []
              case pos =>
                have HN3 : Hid (heldN s l (t + 1) = N) := by show _ = _; rw [HNx2.out, if_neg (fun h => h hne), List.append_nil]
                have hz : L.length = 0 := by rw [hne]; rfl
                obtain ⟨nl, hnl2⟩ : ∃ nl, nl = L.length := ⟨_, rfl⟩
                rw [← hnl2] at hz ⊢
                subst hz
                clear HNx2 hnl2 hne
                go_wp2
                go_roundw
                case rel => exact ⟨t + 1, by omega, by go_num, by show HdA _ _ _ _; rw [HN3.out]; exact HP6.out⟩
                case measure => simp [intOf]; omega
              case neg =>
                have HN3 : Hid (heldN s l (t + 1) = N ++ [(t, L)]) := by show _ = _; rw [HNx2.out, if_pos hne]
                have hp : 0 < L.length := List.length_pos_iff.2 hne
                have d1 : decide ((0 : Int) < (L.length : Int)) = true := decide_eq_true (by omega)
                obtain ⟨hC, hsv⟩ := HO.out.slv (v := .slice a6 N.length c6) (fun b hb => (HP4.out.lt hb))
                obtain ⟨A9, k9, v9, hr9, hO9⟩ := HP6.out.push (by omega) t L hC hsv
                have HP9 : Hid (HdA W1 (.slice A9 (N.length + 1) k9) (heldN s l (t + 1)) v9) := by show HdA _ _ _ _; rw [HN3.out]; exact hO9
                clear hne HNx2 HN3 hO9 hC hsv
                go_wp2_with (at_builtin; refine wpList_append_run _ rfl _ _ _ _ rfl _ _ (by rfl) (by rfl) hr9 ?_)
                go_roundw
                case rel => exact ⟨t + 1, by omega, by go_num, HP9.out⟩
                case measure => simp [intOf]; omega
end Go.Proofs.Ytflpikickbellaa
