/- Layer 26: charts in memory; the counts. The reference's layer 26: Great, Check. -/
import Derived.Test.YtflpikickbellaaKSt4
import Derived.Test.YtflpikickbellaaKG4
import Derived.Test.YtflpikickbellaaKG21
namespace Go.Proofs.Ytflpikickbellaa
open Go.RowKit Go.Shelf
set_option maxRecDepth 100000

/-- A row: whether it is seen from the back, its cells. -/
abbrev RowC := Bool × List Stc
/-- The slice value '.slice A p.length c' holds rows, below block B. -/
def SlC (w : World) (B : Nat) (A : Option Addr) (p : List RowC) : Prop :=
  p ≠ [] → ∃ b off, A = some ⟨b, off, none⟩ ∧ b < B ∧ ∀ j r, p[j]? = some r → ∃ A' C', w.cell? ⟨b, off + j * 2, none⟩ = some (.bool r.1) ∧ w.cell? ⟨b, off + j * 2 + 1, none⟩ = some (.slice A' r.2.length C') ∧ r.2.length ≤ C' ∧ SlT w B A' r.2
theorem SlC.below {w w' : World} {B : Nat} {A : Option Addr} {p : List RowC} (h : SlC w B A p) (hb : Below B w w') : SlC w' B A p := fun hn => by
  obtain ⟨b, off, e, hB, hc⟩ := h hn
  refine ⟨b, off, e, hB, fun j r hr => ?_⟩
  obtain ⟨A', C', h0, h1, h2, h3⟩ := hc j r hr
  exact ⟨A', C', (bcell hb hB _).trans h0, (bcell hb hB _).trans h1, h2, h3.below hb⟩
theorem SlC.more {w : World} {B B' : Nat} {A : Option Addr} {p : List RowC} (h : SlC w B A p) (hB' : B ≤ B') : SlC w B' A p := fun hn => by
  obtain ⟨b, off, e, hB, hc⟩ := h hn
  refine ⟨b, off, e, by omega, fun j r hr => ?_⟩
  obtain ⟨A', C', h0, h1, h2, h3⟩ := hc j r hr
  exact ⟨A', C', h0, h1, h2, h3.more hB'⟩
theorem SlC.at_ {w : World} {B : Nat} {A : Option Addr} {p : List RowC} (h : SlC w B A p) {k : Nat} (hk : k < p.length) :
    ∃ b off r A' C', A = some ⟨b, off, none⟩ ∧ b < B ∧ p[k]? = some r ∧ w.cell? ⟨b, off + k * 2, none⟩ = some (.bool r.1) ∧ w.cell? ⟨b, off + k * 2 + 1, none⟩ = some (.slice A' r.2.length C') ∧ r.2.length ≤ C' ∧ SlT w B A' r.2 := by
  obtain ⟨b, off, e, hB, hc⟩ := h (fun e => by subst e; simp at hk)
  obtain ⟨A', C', h0, h1, h2, h3⟩ := hc k _ (List.getElem?_eq_getElem hk)
  exact ⟨b, off, p[k], A', C', e, hB, List.getElem?_eq_getElem hk, h0, h1, h2, h3⟩
theorem KC.slS {sz B0 : Nat} {A B : World} (h : KC B0 A B) {n : Nat} (hn : n ≤ B0) {a : Option Addr} {zs : List (List Value)} (hs : SlS sz A n a zs) : SlS sz B n a zs := fun hz => by
  obtain ⟨b, off, e, hB, hc⟩ := hs hz
  exact ⟨b, off, e, hB, fun j cs hj i v hv => h.cell (by omega) (hc j cs hj i v hv)⟩
theorem KC.slC {B0 : Nat} {A B : World} (h : KC B0 A B) {n : Nat} (hn : n ≤ B0) {a : Option Addr} {p : List RowC} (hs : SlC A n a p) : SlC B n a p := fun hz => by
  obtain ⟨b, off, e, hB, hc⟩ := hs hz
  refine ⟨b, off, e, hB, fun j r hj => ?_⟩
  obtain ⟨A', C', h0, h1, h2, h3⟩ := hc j r hj
  exact ⟨A', C', h.cell (by omega) h0, h.cell (by omega) h1, h2, KC.slS h hn h3⟩
def RowsWf (p : List RowC) : Prop := ∀ r ∈ p, ∀ s ∈ r.2, s.wf

/-! ### the counts -/
structure Cnt where
  i : Int
  before : Int
  after : Int
  e : Int
def rowE (n : Int) (r : List Stc) : Int := if allE r ≠ 0 then allE r else if usesE r ≠ n then 26 else 0
def rowA (n : Int) (r : List Stc) : Int := if rowE n r = 0 then makesE r else 0
def itemsF : Nat → Int → List RowC → List Cnt
  | _, _, [] => []
  | i, n, r :: t => ⟨i, n, rowA n r.2, rowE n r.2⟩ :: if rowE n r.2 = 0 then itemsF (i + 1) (rowA n r.2) t else []
def errR : Int → List RowC → Int
  | _, [] => 0
  | n, r :: t => if rowE n r.2 = 0 then errR (rowA n r.2) t else rowE n r.2
def chartE (start : Int) (p : List RowC) : Int := if 100 < p.length then 4 else if start < 0 ∨ 200 < start then 8 else errR start p
def encC (x : Cnt) : Array Value := #[.int .i64 x.i, .agg #[.int .i64 x.before, .int .i64 x.after, .int .i64 x.e]]

end Go.Proofs.Ytflpikickbellaa
namespace Go.Proofs.Ytflpikickbellaa
open Go.RowKit Go.Shelf
set_option maxRecDepth 100000

def greatS (n : Nat) : Bool := decide (60 < n ∧ n ≤ 200) || decide (300 < n)
def greatC (p : List RowC) : Bool := (p.take 150).any (fun r => greatS r.2.length) || decide (12 < p.length ∧ p.length ≤ 100) || decide (150 < p.length)
set_option maxHeartbeats 1000000 in
theorem rgreatS_any (A : Option Addr) (n c : Nat) (w : World) : Calls Try.prog 20 #[.slice A n c] w fun e w' => e = .returned (.bool (greatS n)) ∧ Below w.heap.size w w' := by
  have hbl := Lib.hid (Below.refl w.heap.size w)
  by_cases h1 : 300 < n
  · have HE : Hid (greatS n = true) := by unfold Hid greatS; simp [h1]
    clear hbl
    go_enter Try.func20, Try.ntmps20
    go_wp2
    all_goals go_ret
    all_goals exact ⟨ret_bool (by rw [HE.out]; try simp [*]; try omega), Below.refl _ _⟩
  · by_cases h2 : 60 < n ∧ n ≤ 200
    · have HE : Hid (greatS n = true) := by unfold Hid greatS; simp [h2]
      obtain ⟨h3, h4⟩ := h2
      go_enter Try.func20, Try.ntmps20
      go_wp2
      all_goals go_ret
      all_goals exact ⟨ret_bool (by rw [HE.out]; try simp [*]; try omega), Below.refl _ _⟩
    · have HE : Hid (greatS n = false) := by unfold Hid greatS; simp [h2]; omega
      go_enter Try.func20, Try.ntmps20
      go_wp2
      all_goals go_ret
      all_goals exact ⟨ret_bool (by rw [HE.out]; try simp [*]; try omega), Below.refl _ _⟩
theorem take_any {f : RowC → Bool} {p : List RowC} {k : Nat} {r : RowC} (hr : p[k]? = some r) (h : ∀ x ∈ p.take k, f x = false) (hf : f r = false) : ∀ x ∈ p.take (k + 1), f x = false := fun x hx => by
  obtain ⟨hk', e⟩ := List.getElem?_eq_some_iff.1 hr
  rw [List.take_succ_eq_append_getElem hk', e] at hx
  rcases List.mem_append.1 hx with h' | h'
  · exact h x h'
  · rw [List.mem_singleton.1 h']; exact hf
def isInt (v : Value) : Prop := ∃ z : Int, v = .int .i64 z
end Go.Proofs.Ytflpikickbellaa
