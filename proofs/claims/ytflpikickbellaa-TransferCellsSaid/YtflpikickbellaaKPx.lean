/- Layer 32: the program's waiting. -/
import Derived.Test.YtflpikickbellaaKG6
import Derived.Test.YtflpikickbellaaKMpf
import Derived.Test.YtflpikickbellaaShelf
import Derived.Deep.RegionHeld3
namespace Go.Proofs.Ytflpikickbellaa
open Go.RowKit Go.Shelf Go.Sort
set_option maxRecDepth 100000

/-- The loops of a stop that wait, in order. -/
def waitsN (s : Sft) (come : Nat → Bool) (t : Int) : List Int := ((List.range s.n).filter (atN s come t)).map fun i : Nat => (i : Int)
theorem waitsN_mem {s : Sft} {come : Nat → Bool} {t : Int} {i : Nat} : (i : Int) ∈ waitsN s come t ↔ i < s.n ∧ offN s i = t ∧ waitN s come i = true := by
  unfold waitsN atN
  rw [List.mem_map]
  constructor
  · rintro ⟨j, hj, e⟩
    obtain rfl : j = i := by omega
    obtain ⟨h1, h2⟩ := List.mem_filter.1 hj
    rw [Bool.and_eq_true, decide_eq_true_eq] at h2
    exact ⟨List.mem_range.1 h1, h2.1, h2.2⟩
  · rintro ⟨h1, h2, h3⟩
    exact ⟨i, List.mem_filter.2 ⟨List.mem_range.2 h1, by rw [Bool.and_eq_true, decide_eq_true_eq]; exact ⟨h2, h3⟩⟩, rfl⟩
theorem waitsN_len (s : Sft) (come : Nat → Bool) (t : Int) : (waitsN s come t).length ≤ s.n := by
  unfold waitsN
  rw [List.length_map]
  have := List.length_filter_le (atN s come t) (List.range s.n)
  rwa [List.length_range] at this
/-- What a stop's value in the map holds. -/
def WtV (s : Sft) (come : Nat → Bool) (t : Int) (W : World) (o : Option Value) : Prop := ∃ a c, o.getD (.slice none 0 0) = .slice a (waitsN s come t).length c ∧ SlI W W.heap.size a (waitsN s come t)
/-- The map of the waiting loops, to read. -/
def WtA (mb : Nat) (s : Sft) (come : Nat → Bool) (W : World) : Prop := ∃ (nn : Nat) (G : Int → Option Value), MapV W mb nn G ∧ ∀ t, WtV s come t W (G t)
theorem WtA.to {mb : Nat} {s : Sft} {come : Nat → Bool} {W W' : World} (h : WtA mb s come W) (hb : Below W.heap.size W W') : WtA mb s come W' := by
  obtain ⟨nn, G, h1, h2⟩ := h
  refine ⟨nn, G, h1.below hb h1.lt, fun t => ?_⟩
  obtain ⟨a, c, e, hs⟩ := h2 t
  exact ⟨a, c, e, (hs.below hb).more hb.size⟩
theorem zero_ints (w : World) : (zeroValue 22).run Try.prog w = .ok (.slice none 0 0) w := by kernel_rfl
theorem pcontains_any (A : Option Addr) (c : Nat) (zs : List Int) (x : Int) (w : World) (hs : SlI w w.heap.size A zs) (hl : zs.length ≤ 1000000) :
    Calls Try.prog 49 #[.slice A zs.length c, .int .i64 x] w fun e w' => e = .returned (.bool (zs.contains x)) ∧ w' = w := by
  cases zs with
  | nil => exact Try.slices_Contains_int_empty A c x w
  | cons a r =>
    obtain ⟨b, off, rfl, hB, hc⟩ := hs (by simp)
    have h := Try.slices_Contains_int b off (a :: r).length c (a :: r) x w (Nat.le_refl _) (by omega) (fun j hj => by
      rw [hc j (a :: r)[j] (List.getElem?_eq_getElem hj), List.getD_eq_getElem?_getD, List.getElem?_eq_getElem hj]; rfl)
    rw [List.take_length] at h
    exact h
theorem wfK_small {k : Int} (h1 : -8 ≤ k) (h2 : k ≤ 8) : wfK k := WalkArith.wf_i64 (by omega)
theorem wait_has {s : Sft} {come : Nat → Bool} {i : Nat} (hi : i < s.n) : (waitsN s come (offN s i)).contains (i : Int) = waitN s come i := by
  rw [Bool.eq_iff_iff, List.contains_iff_mem, waitsN_mem]
  exact ⟨fun h => h.2.2, fun h => ⟨hi, rfl, h⟩⟩
set_option maxHeartbeats 4000000 in
theorem pwaiting_any (A F : Option Addr) (c fc : Nat) (s : Sft) (mb : Nat) (hs : SftOk s) (come : Nat → Bool) (i : Nat) (hi : i < s.n) (w : World) (h : SfAt A F s w) (hw : WtA mb s come w) :
    Calls Try.prog 36 #[wkV A F c fc s mb, .int .i64 (i : Int)] w fun e w' => e = .returned (.bool (waitN s come i)) ∧ Below w.heap.size w w' := by
  have hbx := WkBx.new c fc mb h
  have hb1 := al_t w (wkB A F c fc s mb)
  have HB := Lib.hid hb1
  have c0 := hbx.c0
  have c1 := hbx.c1
  have c2 := hbx.c2
  have hdr : Below (w.alloc (wkB A F c fc s mb)).heap.size (w.alloc (wkB A F c fc s mb)) (w.alloc (wkB A F c fc s mb)).drew := Below.drew (Below.refl _ _)
  have HOff := Lib.hid (fun W hb => poff_any A F c fc s mb hs i hi W (hbx.at_.to hb))
  have hor := (hs.to_ i hi).2.2
  obtain ⟨nn, G, hm1, hm2⟩ := hw
  obtain ⟨a, k, e, hsl⟩ := hm2 (offN s i)
  have HLk : Hid (∀ W, Below (w.alloc (wkB A F c fc s mb)).heap.size (w.alloc (wkB A F c fc s mb)) W → W.cell? ⟨w.heap.size, 0, none⟩ = some (.slice A s.to_.length c) ∧ W.cell? ⟨w.heap.size, 1, none⟩ = some (.slice F s.first.length fc) ∧ W.cell? ⟨w.heap.size, 2, none⟩ = some (.map (some mb)) ∧ (Instr.lookup 70 (.map (some mb)) (.int .i64 (offN s i)) false).run Try.prog W = .ok (.slice a (waitsN s come (offN s i)).length k) W ∧ SlI W W.heap.size a (waitsN s come (offN s i)) ∧ Below (w.alloc (wkB A F c fc s mb)).heap.size (w.alloc (wkB A F c fc s mb)) W) := fun W hb => by
    have h1 := (hm1.below hb1 hm1.lt).below hb (Nat.lt_of_lt_of_le hm1.lt hb1.size)
    refine ⟨(hbx.to hb).c0, (hbx.to hb).c1, (hbx.to hb).c2, ?_, (((hsl.below hb1).more hb1.size).below hb).more hb.size, hb⟩
    rw [← e]
    exact h1.look Try.underlying70 (zero_ints W) (wfK_small hor.1 hor.2)
  have HR : Hid ((waitsN s come (offN s i)).contains (i : Int) = waitN s come i) := wait_has hi
  have hwl : (waitsN s come (offN s i)).length ≤ 1000000 := by have := waitsN_len s come (offN s i); have := hs.len; omega
  obtain ⟨r, hr⟩ : ∃ r, r = waitN s come i := ⟨_, rfl⟩
  rw [← hr] at HR ⊢
  obtain ⟨L, hL⟩ : ∃ L, L = waitsN s come (offN s i) := ⟨_, rfl⟩
  rw [← hL] at HR hwl
  simp only [← hL] at HLk
  obtain ⟨o, ho⟩ : ∃ o, o = offN s i := ⟨_, rfl⟩
  simp only [← ho] at HLk HOff
  clear h hbx hb1 hr hL ho hs hor hm1 hm2 e hsl
  go_enter Try.func36, Try.ntmps36
  have HOff2 : Hid (∀ W', (W'.cell? ⟨w.heap.size, 0, none⟩ = some (.slice A s.to_.length c) ∧ W'.cell? ⟨w.heap.size, 1, none⟩ = some (.slice F s.first.length fc) ∧ W'.cell? ⟨w.heap.size, 2, none⟩ = some (.map (some mb)) ∧ (Instr.lookup 70 (.map (some mb)) (.int .i64 o) false).run Try.prog W' = .ok (.slice a L.length k) W' ∧ SlI W' W'.heap.size a L ∧ Below (w.alloc (wkB A F c fc s mb)).heap.size (w.alloc (wkB A F c fc s mb)) W') → Calls Try.prog 35 #[wkV A F c fc s mb, .int .i64 (i : Int)] W' fun e w' => e = .returned (.int .i64 o) ∧ Below W'.heap.size W' w') := fun W' h => HOff.out W' h.2.2.2.2.2
  have HCn : Hid (∀ W', (W'.cell? ⟨w.heap.size, 0, none⟩ = some (.slice A s.to_.length c) ∧ W'.cell? ⟨w.heap.size, 1, none⟩ = some (.slice F s.first.length fc) ∧ W'.cell? ⟨w.heap.size, 2, none⟩ = some (.map (some mb)) ∧ (Instr.lookup 70 (.map (some mb)) (.int .i64 o) false).run Try.prog W' = .ok (.slice a L.length k) W' ∧ SlI W' W'.heap.size a L ∧ Below (w.alloc (wkB A F c fc s mb)).heap.size (w.alloc (wkB A F c fc s mb)) W') → Calls Try.prog 49 #[.slice a L.length k, .int .i64 (i : Int)] W' fun e w' => e = .returned (.bool (L.contains (i : Int))) ∧ w' = W') := fun W' h => pcontains_any a k L (i : Int) W' h.2.2.2.2.1 hwl
  have HK : Hid (∀ W W', (W.cell? ⟨w.heap.size, 0, none⟩ = some (.slice A s.to_.length c) ∧ W.cell? ⟨w.heap.size, 1, none⟩ = some (.slice F s.first.length fc) ∧ W.cell? ⟨w.heap.size, 2, none⟩ = some (.map (some mb)) ∧ (Instr.lookup 70 (.map (some mb)) (.int .i64 o) false).run Try.prog W = .ok (.slice a L.length k) W ∧ SlI W W.heap.size a L ∧ Below (w.alloc (wkB A F c fc s mb)).heap.size (w.alloc (wkB A F c fc s mb)) W) → Below W.heap.size W W' → W'.cell? ⟨w.heap.size, 0, none⟩ = some (.slice A s.to_.length c) ∧ W'.cell? ⟨w.heap.size, 1, none⟩ = some (.slice F s.first.length fc) ∧ W'.cell? ⟨w.heap.size, 2, none⟩ = some (.map (some mb)) ∧ (Instr.lookup 70 (.map (some mb)) (.int .i64 o) false).run Try.prog W' = .ok (.slice a L.length k) W' ∧ SlI W' W'.heap.size a L ∧ Below (w.alloc (wkB A F c fc s mb)).heap.size (w.alloc (wkB A F c fc s mb)) W') := fun W W' h1 h2 => HLk.out W' (h1.2.2.2.2.2.trans (h2.mono h1.2.2.2.2.2.size))
  have HS0 := Lib.hid (HLk.out _ (Below.refl _ _))
  generalize L.contains (i : Int) = q at HCn HR
  clear HOff
  go_wp2
  go_region_held3 (fun W' => W'.cell? ⟨w.heap.size, 0, none⟩ = some (.slice A s.to_.length c) ∧ W'.cell? ⟨w.heap.size, 1, none⟩ = some (.slice F s.first.length fc) ∧ W'.cell? ⟨w.heap.size, 2, none⟩ = some (.map (some mb)) ∧ (Instr.lookup 70 (.map (some mb)) (.int .i64 o) false).run Try.prog W' = .ok (.slice a L.length k) W' ∧ SlI W' W'.heap.size a L ∧ Below (w.alloc (wkB A F c fc s mb)).heap.size (w.alloc (wkB A F c fc s mb)) W')
    (first | exact HK.out _ _ HS0.out (Below.drew (Below.refl _ _)) | exact (by assumption) | exact HK.out _ _ (by assumption) (by assumption) | fail)
    (first
      | (go_at_call 35; refine (HOff2.out _ (by assumption)).mono ?_; rintro e w' ⟨rfl, hb3⟩)
      | (go_at_call 49; refine (HCn.out _ (by assumption)).mono ?_; rintro e w' ⟨rfl, rfl⟩))
  rename_i hS1
  have HB3 := Lib.hid hS1.2.2.2.2.2
  clear hS1 HS0 HK
  go_wp2
  go_ret
  exact ⟨ret_bool HR.out, HB.out.trans (HB3.out.mono HB.out.size)⟩
end Go.Proofs.Ytflpikickbellaa
