/- Layer 31: begin, column, racked, the hooks that are used. Layer 31: a pass in memory; begin. Layer 31: hooks that are used already; grow. Layer 31: the store of a pass's last instruction. -/
import Derived.Test.YtbnddpknejgmhaaGreatKP45
namespace Go.Proofs.YtbnddpknejgmhaaGreat
open Go.RowKit
set_option maxRecDepth 100000

def Ins.col (rack : Int) (i : Ins) : Int := i.at_ + i.bed * rack
theorem col_rng {rack : Int} {i : Ins} (hi : i.fit) (hr : -8 ≤ rack ∧ rack ≤ 8) : (-8 ≤ i.bed * rack ∧ i.bed * rack ≤ 8) ∧ -108 ≤ i.col rack ∧ i.col rack ≤ 108 := by
  obtain ⟨_, _, h1, h2, ⟨h3, h4⟩, _⟩ := hi
  unfold Ins.col
  rcases (by omega : i.bed = 0 ∨ i.bed = 1) with e | e
  · rw [e]; omega
  · rw [e]; omega

def rackedI (rack : Int) (i : Ins) : Int := if i.op = 8 then i.rack else rack
set_option maxHeartbeats 1000000 in
theorem racked_any (rack : Int) (i : Ins) (w : World) : Calls Tryz.prog 43 #[.int .i64 rack, i.val] w fun e w' => e = .returned (.int .i64 (rackedI rack i)) ∧ Below w.heap.size w w' := by
  by_cases h : i.op = 8
  · have HE : Hid ((rackedI rack i) = i.rack) := if_pos h
    go_enter Tryz.func43, Tryz.ntmps43
    go_wp2
    go_ret
    exact ⟨ret_int HE.out.symm, (Below.refl _ _).alloc (Nat.le_refl _) _⟩
  · have HE : Hid ((rackedI rack i) = rack) := if_neg h
    have f : (i.op == 8) = false := beq_eq_false_iff_ne.2 h
    go_enter Tryz.func43, Tryz.ntmps43
    go_wp2
    go_ret
    exact ⟨ret_int HE.out.symm, (Below.refl _ _).alloc (Nat.le_refl _) _⟩

set_option maxHeartbeats 1000000 in
theorem columnP_any (rack : Int) (i : Ins) (hi : i.fit) (hr : -8 ≤ rack ∧ rack ≤ 8) (pb : Nat) (w : World) (hp : w.cell? ⟨pb, 14, none⟩ = some (.int .i64 rack)) :
    Calls Tryz.prog 101 #[.pointer (some ⟨pb, 0, none⟩), i.val] w fun e w' => e = .returned (.int .i64 (i.col rack)) ∧ Below w.heap.size w w' := by
  have h := col_rng hi hr
  have HC : Hid (i.col rack = i.at_ + i.bed * rack) := rfl
  have h1 : IntKind.i64.wrap (i.bed * rack) = i.bed * rack := IntWalk.i64_in _ (by omega)
  have h2 : IntKind.i64.wrap (i.at_ + i.bed * rack) = i.at_ + i.bed * rack := IntWalk.i64_in _ (by unfold Ins.col at h; omega)
  have h3 : IntKind.i64.wrap i.bed = i.bed := IntWalk.i64_in _ (by obtain ⟨_, _, h1, h2, _⟩ := hi; omega)
  have hpl := cell_lt hp
  have hpa := fun o => (bcell ((Below.refl _ w).alloc (Nat.le_refl _) o) hpl 14).trans hp
  clear hi hr h
  go_enter Tryz.func101, Tryz.ntmps101
  go_wp2
  go_quiet (fail)
  go_wp2
  go_ret
  refine ⟨ret_int ?_, ?_⟩
  · rw [HC.out]
  · exact below_drewN ((Below.refl _ _).alloc (Nat.le_refl _) _) _

set_option maxHeartbeats 1000000 in
theorem grow1_any (bx pb mb n : Nat) (U : List Hook) (u : Hook) (hu : okU u) (w : World) (hb : w.cell? ⟨bx, 0, none⟩ = some (.pointer (some ⟨pb, 0, none⟩))) (hp : w.cell? ⟨pb, 15, none⟩ = some (.map (some mb))) (hset : HookSet w mb n U) :
    Calls Tryz.prog 104 #[hval u, .pointer (some ⟨bx, 0, none⟩)] w fun e w' => e = .returned (.bool (decide (u ∈ U))) ∧ Below w.heap.size w w' := by
  have hbl := cell_lt hb
  have hba := fun o => (bcell ((Below.refl _ w).alloc (Nat.le_refl _) o) hbl 0).trans hb
  have hpl := cell_lt hp
  have hpa := fun o => (bcell ((Below.refl _ w).alloc (Nat.le_refl _) o) hpl 15).trans hp
  have hlook : ∀ n : Nat, (Instr.lookup 162 (.map (some mb)) (hval u) false).run Tryz.prog ((w.alloc (.cells #[.int .u8 u.1, .int .i64 u.2] 170)).drewN n) = .ok (.bool (decide (u ∈ U))) ((w.alloc (.cells #[.int .u8 u.1, .int .i64 u.2] 170)).drewN n) :=
    fun n => HookSet.look (HookSet.below hset (below_drewN ((Below.refl _ _).alloc (Nat.le_refl _) _) n) hset.lt) hu
  generalize decide (u ∈ U) = r at hlook ⊢
  clear hset
  go_enter Tryz.func104, Tryz.ntmps104
  go_wp2
  go_quiet (fail)
  go_wp2
  go_ret
  exact ⟨rfl, below_drewN ((Below.refl _ _).alloc (Nat.le_refl _) _) _⟩
end Go.Proofs.YtbnddpknejgmhaaGreat
namespace Go.Proofs.YtbnddpknejgmhaaGreat
open Go.RowKit
set_option maxRecDepth 100000

/-- Block pb is a pass: its first instruction a, its last l, its racking; block mb: its set. -/
structure PassAt (w : World) (pb mb n : Nat) (a l : Ins) (rack : Int) (U : List Hook) : Prop where
  first : InsAt w pb 0 a
  last : InsAt w pb 7 l
  rack : w.cell? ⟨pb, 14, none⟩ = some (.int .i64 rack)
  used : w.cell? ⟨pb, 15, none⟩ = some (.map (some mb))
  set_ : HookSet w mb n U
  thawed : ∀ k, w.frozen? ⟨pb, k, none⟩ = false

theorem thawed_new (w : World) (cs : Array Value) (t : TypeId) (k : Nat) {b : Nat} (hb : b = w.heap.size) : (w.alloc (.cells cs t)).frozen? ⟨b, k, none⟩ = false := by
  subst hb
  have e : (w.alloc (.cells cs t)).heap[w.heap.size]? = some (.cells cs t) := Array.getElem?_push_size
  simp only [World.frozen?, e]
  simp
  try omega
theorem grown_ins {w w' : World} {mb : Nat} (h : w.grownBy w' (some mb)) {b o : Nat} {i : Ins} (hne : b ≠ mb) (hi : InsAt w b o i) : InsAt w' b o i := by
  obtain ⟨h0, h1, h2, h3, h4, h5, h6⟩ := hi
  exact ⟨grown_cell h hne h0, grown_cell h hne h1, grown_cell h hne h2, grown_cell h hne h3, grown_cell h hne h4, grown_cell h hne h5, grown_cell h hne h6⟩
theorem grown_thawed {w w' : World} {mb : Nat} (h : w.grownBy w' (some mb)) {b k : Nat} (hne : b ≠ mb) (hl : b < w.heap.size) (hi : w.frozen? ⟨b, k, none⟩ = false) : w'.frozen? ⟨b, k, none⟩ = false := by
  have := h.block b hl (by simpa using hne)
  simp only [World.frozen?] at hi ⊢
  rw [this]; exact hi
theorem PassAt.below {w w' : World} {pb mb n B : Nat} {a l : Ins} {rack : Int} {U : List Hook} (h : PassAt w pb mb n a l rack U) (hb : Below B w w') (h1 : pb < B) (h2 : mb < B) : PassAt w' pb mb n a l rack U := by
  refine ⟨h.first.below hb h1, h.last.below hb h1, (bcell hb h1 _).trans h.rack, (bcell hb h1 _).trans h.used, h.set_.below hb h2, fun k => ?_⟩
  have e := hb.block pb h1
  have := h.thawed k
  simp only [World.frozen?] at this ⊢
  rw [e]; exact this

theorem begin_set (w : World) (o : Obj) (cs : Array Value) (t : TypeId) (hcs : cs[15]? = some (.map (some (w.heap.size + 1)))) :
    (((w.alloc o).alloc (.map #[] 0)).alloc (.cells cs t)).cell? ⟨w.heap.size + 2, 15, none⟩ = some (.map (some (w.heap.size + 1))) ∧
    HookSet (((w.alloc o).alloc (.map #[] 0)).alloc (.cells cs t)) (w.heap.size + 1) 0 [] := by
  constructor
  · have e : (((w.alloc o).alloc (.map #[] 0)).alloc (.cells cs t)).heap[((w.alloc o).alloc (.map #[] 0)).heap.size]? = some (.cells cs t) := Array.getElem?_push_size
    have e2 : ((w.alloc o).alloc (.map #[] 0)).heap.size = w.heap.size + 2 := by simp
    rw [e2] at e
    simp only [World.cell?, e]
    exact hcs
  · have h := HookSet.made (w.alloc o)
    have e1 : (w.alloc o).heap.size = w.heap.size + 1 := by simp
    rw [e1] at h
    exact h.below (B := w.heap.size + 2) ((Below.refl _ _).alloc (by simp) _) (by omega)
theorem cell_of_new (w : World) (cs : Array Value) (t : TypeId) {b o : Nat} {v : Value} (hb : b = w.heap.size) (h : cs[o]? = some v) : (w.alloc (.cells cs t)).cell? ⟨b, o, none⟩ = some v := by
  subst hb
  have e : (w.alloc (.cells cs t)).heap[w.heap.size]? = some (.cells cs t) := Array.getElem?_push_size
  simp only [World.cell?, e]
  exact h

set_option maxHeartbeats 1000000 in
theorem begin_any (rack : Int) (i : Ins) (hi : i.fit) (w : World) :
    Calls Tryz.prog 72 #[.int .i64 rack, i.val] w fun e w' =>
      ∃ pb mb, e = .returned (.pointer (some ⟨pb, 0, none⟩)) ∧ w.heap.size ≤ pb ∧ w.heap.size ≤ mb ∧ pb ≠ mb ∧ PassAt w' pb mb (hooks i).length i i rack (hooks i).reverse ∧ Below w.heap.size w w' := by
  have hmm := @run_makeMap Tryz.prog
  have hcall := Lib.hid (fun o cs hcs => use_any i hi (w.heap.size + 2) (w.heap.size + 1) 0 [] (((w.alloc o).alloc (.map #[] 0)).alloc (.cells cs 164)) (begin_set w o cs _ hcs).1 (begin_set w o cs _ hcs).2 (by unfold maxLen; omega))
  clear hi
  go_enter Tryz.func72, Tryz.ntmps72
  go_wp2_with (go_at_call 99; refine (hcall.out _ _ rfl).mono ?_; rintro e w1 ⟨rfl, hs1, hg⟩)
  go_ret
  have hne : w.heap.size + 2 ≠ w.heap.size + 1 := by omega
  refine ⟨_, w.heap.size + 1, rfl, by omega, by omega, hne, ⟨grown_ins hg hne ?_, grown_ins hg hne ?_, grown_cell hg hne ?_, grown_cell hg hne ?_, ?_, fun k => grown_thawed hg hne (by simp) ?_⟩, ?_⟩
  · exact ⟨cell_of_new _ _ _ (by simp) rfl, cell_of_new _ _ _ (by simp) rfl, cell_of_new _ _ _ (by simp) rfl, cell_of_new _ _ _ (by simp) rfl, cell_of_new _ _ _ (by simp) rfl, cell_of_new _ _ _ (by simp) rfl, cell_of_new _ _ _ (by simp) rfl⟩
  · exact ⟨cell_of_new _ _ _ (by simp) rfl, cell_of_new _ _ _ (by simp) rfl, cell_of_new _ _ _ (by simp) rfl, cell_of_new _ _ _ (by simp) rfl, cell_of_new _ _ _ (by simp) rfl, cell_of_new _ _ _ (by simp) rfl, cell_of_new _ _ _ (by simp) rfl⟩
  · exact cell_of_new _ _ _ (by simp) rfl
  · exact cell_of_new _ _ _ (by simp) rfl
  · have := hs1
    rw [Nat.zero_add, List.append_nil] at this
    exact this
  · exact thawed_new _ _ _ _ (by simp)
  · refine Below.grown (row := some (w.heap.size + 1)) ((((Below.refl _ _).alloc (Nat.le_refl _) _).alloc (by simp) _).alloc (by simp; omega) _) hg (by simp; omega) (fun k e => ?_)
    cases e; omega
end Go.Proofs.YtbnddpknejgmhaaGreat
namespace Go.Proofs.YtbnddpknejgmhaaGreat
open Go.RowKit
set_option maxRecDepth 100000

set_option maxHeartbeats 1000000 in
theorem idxH_any (g : Nat) (lb : Array Value) (eg : ∀ args w, (callFunc g args).run Tryz.prog w = .ok (.enter g args) w) (pr : Hook → Bool) (A : Option Addr) (c : Nat) (zs : List Hook) (w : World)
    (hs : SlH w w.heap.size A zs) (hn : zs.length ≤ 4611686018427387904) (hp : ∀ x, x ∈ zs → ∀ w', Below w.heap.size w w' → Calls Tryz.prog g (#[hval x] ++ lb) w' fun e w2 => e = .returned (.bool (pr x)) ∧ Below w'.heap.size w' w2) :
    Calls Tryz.prog 119 #[.slice A zs.length c, .func (.func g) #[] lb] w fun e w' => e = .returned (.int .i64 (idxE pr zs)) ∧ Below w.heap.size w w' := by
  go_enter Tryz.func119, Tryz.ntmps119
  go_wp2
  go_loopw [8] (fun i wr => ∃ k : Nat, k ≤ zs.length ∧ i = .int .i64 k ∧ Hid (∀ j y, j < k → zs[j]? = some y → pr y = false) ∧ Below w.heap.size w wr) (fun i _ => zs.length - (intOf i).toNat)
  case atStart => exact ⟨0, Nat.zero_le _, rfl, fun j _ hj => absurd hj (Nat.not_lt_zero j), Below.refl _ _⟩
  case round =>
    obtain ⟨k, hk, rfl, H, hbw⟩ := hrel
    by_cases hlt : k < zs.length
    · obtain ⟨b, off, z, rfl, hB, hr, hc0, hc1⟩ := hs.at_ hlt
      have c0 := (bcell hbw hB _).trans hc0
      have c1 := (bcell hbw hB _).trans hc1
      have hcall := hp z (List.mem_of_getElem? hr) wr hbw
      have HR : Hid (zs[k]? = some z) := hr
      clear hr hs hp hc0 hc1
      cases hq : pr z with
      | true =>
        rw [hq] at hcall
        have HQ : Hid (pr z = true) := hq
        clear hq
        go_wp2_with (go_at_fn g; refine hcall.mono ?_; rintro e w' ⟨rfl, hb1⟩)
        go_ret
        exact ⟨ret_int (idxE_hit HR.out HQ.out H.out).symm, hbw.trans (hb1.mono hbw.size)⟩
      | false =>
        rw [hq] at hcall
        have HQ : Hid (pr z = false) := hq
        clear hq
        go_wp2_with (go_at_fn g; refine hcall.mono ?_; rintro e w' ⟨rfl, hb1⟩)
        go_roundw
        case rel =>
          refine ⟨k + 1, by omega, by go_num, fun j y hj hy => ?_, hbw.trans (hb1.mono hbw.size)⟩
          by_cases e : j = k
          · subst e; rw [HR.out] at hy; injection hy with hy; subst hy; exact HQ.out
          · exact H.out j y (by omega) hy
        case measure => simp [intOf]; omega
    · have HE : Hid (idxE pr zs = -1) := idxE_none (fun j y hj => H.out j y (by omega))
      clear H hs hp
      go_wp2
      go_ret
      exact ⟨ret_int HE.out.symm, hbw⟩
theorem contH_any (g : Nat) (lb : Array Value) (eg : ∀ args w, (callFunc g args).run Tryz.prog w = .ok (.enter g args) w) (pr : Hook → Bool) (A : Option Addr) (c : Nat) (zs : List Hook) (w : World)
    (hs : SlH w w.heap.size A zs) (hn : zs.length ≤ 4611686018427387904) (hp : ∀ x, x ∈ zs → ∀ w', Below w.heap.size w w' → Calls Tryz.prog g (#[hval x] ++ lb) w' fun e w2 => e = .returned (.bool (pr x)) ∧ Below w'.heap.size w' w2) :
    Calls Tryz.prog 102 #[.slice A zs.length c, .func (.func g) #[] lb] w fun e w' => e = .returned (.bool (zs.any pr)) ∧ Below w.heap.size w w' := by
  have HA : Hid (decide (0 ≤ idxE pr zs) = zs.any pr) := idxE_any pr zs
  have hcall := Lib.hid (idxH_any g lb eg pr A c zs w hs hn hp)
  clear hs hp eg
  go_enter Tryz.func102, Tryz.ntmps102
  go_wp2_with (go_at_call 119; refine hcall.out.mono ?_; rintro e w' ⟨rfl, hb1⟩)
  go_ret
  exact ⟨ret_bool (by first | exact HA.out | (rw [← HA.out]; simp)), hb1⟩
/-- The needles of an instruction are named already. -/
theorem usedH_any (bx pb mb n : Nat) (U : List Hook) (zs : List Hook) (hz : ∀ u ∈ zs, okU u) (hn : zs.length ≤ 2) (A : Option Addr) (c : Nat) (w : World) (hs : SlH w w.heap.size A zs)
    (hb : w.cell? ⟨bx, 0, none⟩ = some (.pointer (some ⟨pb, 0, none⟩))) (hp : w.cell? ⟨pb, 15, none⟩ = some (.map (some mb))) (hset : HookSet w mb n U) :
    Calls Tryz.prog 102 #[.slice A zs.length c, .func (.func 104) #[] #[.pointer (some ⟨bx, 0, none⟩)]] w fun e w' =>
      e = .returned (.bool (zs.any fun u => decide (u ∈ U))) ∧ Below w.heap.size w w' :=
  contH_any 104 #[.pointer (some ⟨bx, 0, none⟩)] (enters_of Tryz.func104 (by kernel_rfl) rfl) _ A c zs w hs (by omega) (fun x hx w' hw' =>
    grow1_any bx pb mb n U x (hz x hx) w' ((bcell hw' (cell_lt hb) _).trans hb) ((bcell hw' (cell_lt hp) _).trans hp) (hset.below hw' hset.lt))
end Go.Proofs.YtbnddpknejgmhaaGreat
namespace Go.Proofs.YtbnddpknejgmhaaGreat
open Go.RowKit
set_option maxRecDepth 100000

theorem grown_of_below {w w' : World} {r : Option Nat} (h : Below w.heap.size w w') : w.grownBy w' r := ⟨h.os, h.tape, h.output, h.size, fun b hb _ => h.block b hb⟩
theorem grown_set (w : World) (b o : Nat) (v : Value) : w.grownBy (w.setCell ⟨b, o, none⟩ v) (some b) :=
  ⟨rfl, rfl, rfl, by simp [World.setCell], fun k _ hk => Below.heap_setCell w ⟨b, o, none⟩ v k (fun e => hk (by rw [e]))⟩
theorem HookSet.setCell {w : World} {mb n : Nat} {U : List Hook} (h : HookSet w mb n U) {b o : Nat} (hne : b ≠ mb) (v : Value) : HookSet (w.setCell ⟨b, o, none⟩ v) mb n U :=
  h.kept (grown_set w b o v) (by simpa using fun e => hne e.symm)
theorem st_other {w : World} {b o o' : Nat} {v u : Value} (hne : o ≠ o') (h : w.cell? ⟨b, o', none⟩ = some u) : (w.setCell ⟨b, o, none⟩ v).cell? ⟨b, o', none⟩ = some u := by
  have e : (⟨b, o, none⟩ : Addr) ≠ ⟨b, o', none⟩ := fun e => hne (Addr.mk.inj e).2.1
  exact (World.cell?_setCell_other _ _ _ _ e).trans h
theorem st_same {w : World} {b o : Nat} {v u : Value} (h : w.cell? ⟨b, o, none⟩ = some u) : (w.setCell ⟨b, o, none⟩ v).cell? ⟨b, o, none⟩ = some v := World.cell?_setCell_same' w _ v (by rw [h]; rfl)
theorem PassAt.store {W : World} {pb mb n : Nat} {a l i : Ins} {rack : Int} {U : List Hook} (h : PassAt W pb mb n a l rack U) {v0 v1 v2 v3 v4 v5 v6 : Value}
    (e0 : v0 = .int .u8 i.op) (e1 : v1 = .bool i.right) (e2 : v2 = .int .u8 i.bed) (e3 : v3 = .int .i64 i.at_) (e4 : v4 = .int .i64 i.to_) (e5 : v5 = .int .i64 i.car) (e6 : v6 = .int .i64 i.rack) :
    W.grownBy (((((((W.setCell ⟨pb, 7, none⟩ v0).setCell ⟨pb, 8, none⟩ v1).setCell ⟨pb, 9, none⟩ v2).setCell ⟨pb, 10, none⟩ v3).setCell ⟨pb, 11, none⟩ v4).setCell ⟨pb, 12, none⟩ v5).setCell ⟨pb, 13, none⟩ v6) (some pb) ∧
    PassAt (((((((W.setCell ⟨pb, 7, none⟩ v0).setCell ⟨pb, 8, none⟩ v1).setCell ⟨pb, 9, none⟩ v2).setCell ⟨pb, 10, none⟩ v3).setCell ⟨pb, 11, none⟩ v4).setCell ⟨pb, 12, none⟩ v5).setCell ⟨pb, 13, none⟩ v6) pb mb n a i rack U := by
  have hne : pb ≠ mb := h.set_.ne h.rack
  obtain ⟨⟨f0, f1, f2, f3, f4, f5, f6⟩, ⟨l0, l1, l2, l3, l4, l5, l6⟩, hk, hu, hs, hf⟩ := h
  simp only [Nat.zero_add, Nat.reduceAdd] at f1 f2 f3 f4 f5 f6 l1 l2 l3 l4 l5 l6
  refine ⟨((((((grown_set _ _ _ _).trans (grown_set _ _ _ _)).trans (grown_set _ _ _ _)).trans (grown_set _ _ _ _)).trans (grown_set _ _ _ _)).trans (grown_set _ _ _ _)).trans (grown_set _ _ _ _), ?_⟩
  subst e0 e1 e2 e3 e4 e5 e6
  have all : ∀ o u, W.cell? ⟨pb, o, none⟩ = some u → (o < 7 ∨ 13 < o) → (((((((W.setCell ⟨pb, 7, none⟩ (.int .u8 i.op)).setCell ⟨pb, 8, none⟩ (.bool i.right)).setCell ⟨pb, 9, none⟩ (.int .u8 i.bed)).setCell ⟨pb, 10, none⟩ (.int .i64 i.at_)).setCell ⟨pb, 11, none⟩ (.int .i64 i.to_)).setCell ⟨pb, 12, none⟩ (.int .i64 i.car)).setCell ⟨pb, 13, none⟩ (.int .i64 i.rack)).cell? ⟨pb, o, none⟩ = some u := fun o u hu ho =>
    st_other (by omega) (st_other (by omega) (st_other (by omega) (st_other (by omega) (st_other (by omega) (st_other (by omega) (st_other (by omega) hu))))))
  refine ⟨⟨all _ _ f0 (by omega), all _ _ f1 (by omega), all _ _ f2 (by omega), all _ _ f3 (by omega), all _ _ f4 (by omega), all _ _ f5 (by omega), all _ _ f6 (by omega)⟩, ⟨?_, ?_, ?_, ?_, ?_, ?_, ?_⟩, all _ _ hk (by omega), all _ _ hu (by omega), ?_, fun k => by simpa using hf k⟩
  · exact st_other (by omega) (st_other (by omega) (st_other (by omega) (st_other (by omega) (st_other (by omega) (st_other (by omega) (st_same l0))))))
  · exact st_other (by omega) (st_other (by omega) (st_other (by omega) (st_other (by omega) (st_other (by omega) (st_same (st_other (by omega) l1))))))
  · exact st_other (by omega) (st_other (by omega) (st_other (by omega) (st_other (by omega) (st_same (st_other (by omega) (st_other (by omega) l2))))))
  · exact st_other (by omega) (st_other (by omega) (st_other (by omega) (st_same (st_other (by omega) (st_other (by omega) (st_other (by omega) l3))))))
  · exact st_other (by omega) (st_other (by omega) (st_same (st_other (by omega) (st_other (by omega) (st_other (by omega) (st_other (by omega) l4))))))
  · exact st_other (by omega) (st_same (st_other (by omega) (st_other (by omega) (st_other (by omega) (st_other (by omega) (st_other (by omega) l5))))))
  · exact st_same (st_other (by omega) (st_other (by omega) (st_other (by omega) (st_other (by omega) (st_other (by omega) (st_other (by omega) l6))))))
  · exact ((((((hs.setCell hne _).setCell hne _).setCell hne _).setCell hne _).setCell hne _).setCell hne _).setCell hne _
end Go.Proofs.YtbnddpknejgmhaaGreat
