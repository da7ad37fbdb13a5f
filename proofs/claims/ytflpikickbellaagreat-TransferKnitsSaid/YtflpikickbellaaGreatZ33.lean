/- Layer 32, plain. -/
import Derived.Test.YtflpikickbellaaGreatZ31
import Derived.Test.YtflpikickbellaaGreatZ32
namespace Go.Proofs.YtflpikickbellaaGreat
open Go.RowKit Go.Shelf Go.Sort
set_option maxRecDepth 100000
def toG (P : List (List Int)) (n : Nat) : Nat → Nat → Int
 | 0, _ => 0
 | m + 1, u => if (u : Int) ∈ P.getD (n + m) [] then (m : Int) else toG P n m u
def bfP (l : List Int) (a b : Int) : Prop := ∃ k m : Nat, k < m ∧ l[k]? = some a ∧ l[m]? = some b
def hdP (P : List (List Int)) (i : Int) : Int := (P.getD i.toNat []).getD 0 0
def befA (n : Nat) (P : List (List Int)) (cr : List (Int × Int)) (a b : Int) : Prop := (∃ j, n ≤ j ∧ bfP (P.getD j []) a b) ∨ ∃ c ∈ cr, hdP P c.1 = a ∧ hdP P c.2 = b
def newsP (s : Stc) (used : List Int) : List (List Int) :=
 if s.kind = 6 ∨ s.kind = 7 then (used.drop s.a.toNat ++ used.take s.a.toNat).map fun x => [x]
 else if s.kind = 4 then [used.reverse] else [used]
theorem newsL_par {s : Stc} (h : CellOk s) (row k : Int) (used : List Int) (lp : List Lp) : (newsL row k s used lp).map Lp.par = newsP s used := by
 unfold newsL newsP
 rcases h.kind with e | e | e | e | e | e | e <;> rw [e] <;> simp [List.map_map, Function.comp_def]
theorem getD_app_lt {α : Type} {P Q : List α} {d : α} {j : Nat} (h : j < P.length) : (P ++ Q).getD j d = P.getD j d := by
 rw [List.getD_eq_getElem?_getD, List.getD_eq_getElem?_getD, List.getElem?_append_left h]
theorem getD_app_ge {α : Type} {P Q : List α} {d : α} {q : Nat} : (P ++ Q).getD (P.length + q) d = Q.getD q d := by
 rw [List.getD_eq_getElem?_getD, List.getD_eq_getElem?_getD, List.getElem?_append_right (by omega), Nat.add_sub_cancel_left]
theorem getD_far {α : Type} {P : List α} {d : α} {j : Nat} (h : P.length ≤ j) : P.getD j d = d := by
 rw [List.getD_eq_getElem?_getD, List.getElem?_eq_none h]; rfl
theorem toG_app {P Q : List (List Int)} {n : Nat} : ∀ {m : Nat}, n + m ≤ P.length → ∀ u, toG (P ++ Q) n m u = toG P n m u
 | 0, _, _ => rfl
 | m + 1, h, u => by
   show (if _ then _ else _) = if _ then _ else _
   rw [getD_app_lt (by omega), toG_app (by omega)]
theorem toG_none {P : List (List Int)} {n m u : Nat} : ∀ {g : Nat}, (∀ q, q < g → ¬ (u : Int) ∈ P.getD (n + m + q) []) → toG P n (m + g) u = toG P n m u
 | 0, _ => rfl
 | g + 1, h => by
   show (if (u : Int) ∈ P.getD (n + (m + g)) [] then ((m + g : Nat) : Int) else toG P n (m + g) u) = _
   rw [if_neg (by rw [← Nat.add_assoc]; exact h g (by omega)), toG_none fun q hq => h q (by omega)]
theorem toG_one {P : List (List Int)} {n m u : Nat} {g q : Nat} (hq : q < g) (h1 : (u : Int) ∈ P.getD (n + m + q) []) (h2 : ∀ q', q' < g → (u : Int) ∈ P.getD (n + m + q') [] → q' = q) : toG P n (m + g) u = ((m + q : Nat) : Int) := by
 have e : m + g = (m + q + 1) + (g - q - 1) := by omega
 rw [e, toG_none fun q' hq' hm => ?_]
 · show (if (u : Int) ∈ P.getD (n + (m + q)) [] then ((m + q : Nat) : Int) else toG P n (m + q) u) = _
   rw [if_pos (by rw [← Nat.add_assoc]; exact h1)]
 · have := h2 (q + 1 + q') (by omega) (by rw [show n + m + (q + 1 + q') = n + (m + q + 1) + q' by omega]; exact hm)
   omega
theorem pr_mem {l : List Int} {a b : Int} (h : bfP l a b) : a ∈ l ∧ b ∈ l := by
 obtain ⟨k, m, -, h1, h2⟩ := h
 exact ⟨List.mem_of_getElem? h1, List.mem_of_getElem? h2⟩
theorem pr_nil {a b : Int} : ¬ bfP [] a b := fun ⟨_, _, _, h, _⟩ => by simp at h
theorem pr_one {x a b : Int} : ¬ bfP [x] a b := fun ⟨k, m, h, h1, h2⟩ => by
 have := (List.getElem?_eq_some_iff.1 h1).1
 have := (List.getElem?_eq_some_iff.1 h2).1
 simp at *
 omega
structure CeI (n : Nat) (O : OfT) (P : List (List Int)) (cr : List (Int × Int)) (next : Nat) : Prop where
 nx : next = O.to_.length
 ln : P.length = n + O.nd
 tz : ∀ u, u < next → toG P n O.nd u = O.to_.getD u 0
 pr : ∀ j, n ≤ j → ∀ x ∈ P.getD j [], 0 ≤ x ∧ x < (next : Int)
 cx : ∀ c ∈ cr, 0 ≤ c.1 ∧ n ≤ c.1.toNat ∧ c.1.toNat < P.length ∧ 0 ≤ c.2 ∧ n ≤ c.2.toNat ∧ c.2.toNat < P.length ∧ (∃ a, P.getD c.1.toNat [] = [a]) ∧ ∃ a, P.getD c.2.toNat [] = [a]
 fr : ∀ a b : Int, (a, b) ∈ O.fr ↔ befA n P cr a b
 rg : ∀ p ∈ O.fr, 0 ≤ p.1 ∧ p.1 < (next : Int) ∧ 0 ≤ p.2 ∧ p.2 < (next : Int)
 nd : O.fr.Nodup
theorem CeI.start (n : Nat) : CeI n ⟨0, [], []⟩ ((startP n).lp.map Lp.par) [] 0 := by
 have hp : ∀ j, ((startP n).lp.map Lp.par).getD j [] = [] := fun j => by
  rw [List.getD_eq_getElem?_getD, List.getElem?_map]
  unfold startP
  simp only [List.getElem?_map]
  cases (List.range n)[j]? <;> rfl
 refine ⟨rfl, by rw [List.length_map, startP_len]; rfl, (fun u hu => absurd hu (Nat.not_lt_zero u)), (fun j _ x hx => by rw [hp] at hx; cases hx), (fun c hc => by cases hc), fun a b => ?_, (fun p hp => by cases hp), List.Pairwise.nil⟩
 constructor
 · intro h; cases h
 · rintro (⟨j, -, h⟩ | ⟨c, hc, -⟩)
   · rw [hp] at h; exact absurd h pr_nil
   · cases hc
theorem CeI.step {n : Nat} {O : OfT} {P : List (List Int)} {cr : List (Int × Int)} {next : Nat} (h : CeI n O P cr next) {s : Stc} {Q : List (List Int)} {cs : List (Int × Int)}
 (hQ : Q.length = ofG s) (h2 : ∀ q, ∀ x ∈ Q.getD q [], (next : Int) ≤ x ∧ x < ((next + ofM s : Nat) : Int))
 (h3 : ∀ i, i < ofM s → ∃ q, q < ofG s ∧ ((next + i : Nat) : Int) ∈ Q.getD q [] ∧ (∀ q', q' < ofG s → ((next + i : Nat) : Int) ∈ Q.getD q' [] → q' = q) ∧ toF s O.nd i = ((O.nd + q : Nat) : Int))
 (h4 : ∀ a b : Int, (a, b) ∈ frI s next (ofM s) ↔ (∃ q, bfP (Q.getD q []) a b) ∨ ∃ c ∈ cs, hdP (P ++ Q) c.1 = a ∧ hdP (P ++ Q) c.2 = b)
 (h5 : ∀ p ∈ frI s next (ofM s), (next : Int) ≤ p.1 ∧ p.1 < ((next + ofM s : Nat) : Int) ∧ (next : Int) ≤ p.2 ∧ p.2 < ((next + ofM s : Nat) : Int)) (h6 : (frI s next (ofM s)).Nodup)
 (h7 : ∀ c ∈ cs, 0 ≤ c.1 ∧ P.length ≤ c.1.toNat ∧ c.1.toNat < P.length + Q.length ∧ 0 ≤ c.2 ∧ P.length ≤ c.2.toNat ∧ c.2.toNat < P.length + Q.length ∧ (∃ a, (P ++ Q).getD c.1.toNat [] = [a]) ∧ ∃ a, (P ++ Q).getD c.2.toNat [] = [a]) :
 CeI n (stepO O s) (P ++ Q) (cr ++ cs) (next + ofM s) := by
 have hto : (stepO O s).to_ = O.to_ ++ toI s O.nd (ofM s) := rfl
 have hnd : (stepO O s).nd = O.nd + ofG s := rfl
 have hfr : (stepO O s).fr = O.fr ++ frI s next (ofM s) := by rw [h.nx]; rfl
 have hln := h.ln
 have hold : ∀ c ∈ cr, hdP (P ++ Q) c.1 = hdP P c.1 ∧ hdP (P ++ Q) c.2 = hdP P c.2 := fun c hc => by
  obtain ⟨-, -, c1, -, -, c2, -⟩ := h.cx c hc
  unfold hdP
  rw [getD_app_lt c1, getD_app_lt c2]
  exact ⟨rfl, rfl⟩
 have hj : ∀ j, (j < P.length ∧ (P ++ Q).getD j [] = P.getD j []) ∨ ∃ q, j = P.length + q ∧ (P ++ Q).getD j [] = Q.getD q [] := fun j => by
  by_cases e : j < P.length
  · exact Or.inl ⟨e, getD_app_lt e⟩
  · exact Or.inr ⟨j - P.length, by omega, by rw [show j = P.length + (j - P.length) by omega, getD_app_ge]; congr 1; omega⟩
 refine ⟨by rw [hto, List.length_append, toI_len, h.nx], by rw [List.length_append, hQ, hnd]; omega, fun u hu => ?_, fun j hnj x hx => ?_, fun c hc => ?_, fun a b => ?_, fun p hp => ?_, ?_⟩
 · rw [hnd, hto]
   by_cases e : u < next
   · rw [toG_none fun q _ hm => ?_, toG_app (by omega), h.tz u e, getD_app_lt (by rw [← h.nx]; exact e)]
     rw [← hln, getD_app_ge] at hm
     have := h2 q _ hm
     omega
   · obtain ⟨q, q1, q2, q3, q4⟩ := h3 (u - next) (by omega)
     have e2 : next + (u - next) = u := by omega
     rw [e2] at q2 q3
     rw [toG_one q1 (by rw [← hln, getD_app_ge]; exact q2) (fun q' hq' hm => q3 q' hq' (by rw [← hln, getD_app_ge] at hm; exact hm))]
     rw [show u = O.to_.length + (u - next) by rw [← h.nx]; omega, getD_app_ge]
     unfold toI
     rw [List.getD_eq_getElem?_getD, List.getElem?_map, List.getElem?_range (by omega)]
     exact q4.symm
 · rcases hj j with ⟨-, e⟩ | ⟨q, -, e⟩ <;> rw [e] at hx
   · have := h.pr j hnj x hx; omega
   · have := h2 q x hx; omega
 · rw [List.length_append]
   rcases List.mem_append.1 hc with hc | hc
   · obtain ⟨c1, c2, c3, c4, c5, c6, c7, c8⟩ := h.cx c hc
     rw [getD_app_lt c3, getD_app_lt c6]
     exact ⟨c1, c2, by omega, c4, c5, by omega, c7, c8⟩
   · obtain ⟨c1, c2, c3, c4, c5, c6, c7, c8⟩ := h7 c hc
     exact ⟨c1, by omega, c3, c4, by omega, c6, c7, c8⟩
 · rw [hfr, List.mem_append, h.fr, h4]
   constructor
   · rintro ((⟨j, hnj, hp⟩ | ⟨c, hc, e1, e2⟩) | (⟨q, hp⟩ | ⟨c, hc, e1, e2⟩))
     · refine Or.inl ⟨j, hnj, ?_⟩
       rcases hj j with ⟨-, e⟩ | ⟨q, e, -⟩
       · rw [e]; exact hp
       · rw [getD_far (by omega)] at hp; exact absurd hp pr_nil
     · obtain ⟨o1, o2⟩ := hold c hc
       exact Or.inr ⟨c, List.mem_append.2 (Or.inl hc), o1.trans e1, o2.trans e2⟩
     · exact Or.inl ⟨P.length + q, by omega, by rw [getD_app_ge]; exact hp⟩
     · exact Or.inr ⟨c, List.mem_append.2 (Or.inr hc), e1, e2⟩
   · rintro (⟨j, hnj, hp⟩ | ⟨c, hc, e1, e2⟩)
     · rcases hj j with ⟨-, e⟩ | ⟨q, -, e⟩ <;> rw [e] at hp
       · exact Or.inl (Or.inl ⟨j, hnj, hp⟩)
       · exact Or.inr (Or.inl ⟨q, hp⟩)
     · rcases List.mem_append.1 hc with hc | hc
       · obtain ⟨o1, o2⟩ := hold c hc
         exact Or.inl (Or.inr ⟨c, hc, o1.symm.trans e1, o2.symm.trans e2⟩)
       · exact Or.inr (Or.inr ⟨c, hc, e1, e2⟩)
 · rw [hfr] at hp
   rcases List.mem_append.1 hp with hp | hp
   · have := h.rg p hp; omega
   · have := h5 p hp; omega
 · rw [hfr, List.nodup_append]
   refine ⟨h.nd, h6, fun a ha b hb e => ?_⟩
   have := h.rg a ha
   have := h5 b hb
   subst e
   omega
theorem mem_frI {s : Stc} {at_ M : Nat} {p : Int × Int} : p ∈ frI s at_ M ↔ ∃ j, j < M ∧ ∃ k, k < kF s j ∧ prI s at_ j k = p := by
 unfold frI prsI
 simp only [List.mem_flatMap, List.mem_map, List.mem_range]
theorem nodup_frI (s : Stc) (at_ : Nat) : ∀ M, (frI s at_ M).Nodup
 | 0 => List.Pairwise.nil
 | M + 1 => by
   have hinj : ∀ j k j' k', prI s at_ j k = prI s at_ j' k' → j = j' ∧ k = k' := fun j k j' k' e => by
    unfold prI swP at e
    split at e <;> simp only [Prod.mk.injEq] at e <;> omega
   rw [frI_next, List.nodup_append]
   refine ⟨nodup_frI s at_ M, ?_, fun a ha b hb e => ?_⟩
   · unfold prsI
     rw [List.Nodup, List.pairwise_map]
     exact List.nodup_range.imp fun h e => h (hinj _ _ _ _ e).2
   · obtain ⟨j, hj, k, -, rfl⟩ := mem_frI.1 ha
     unfold prsI at hb
     obtain ⟨k', -, rfl⟩ := List.mem_map.1 hb
     have := (hinj _ _ _ _ e).1
     omega
theorem kF_lt {s : Stc} (h : CellOk s) {i k : Nat} (hk : k < kF s i) : k < i := by
 unfold kF at hk
 split at hk
 · exact hk
 · split at hk
   · split at hk
     · have := h.rng.2 (by assumption); omega
     · omega
   · omega
theorem rng_frI {s : Stc} (h : CellOk s) {at_ M : Nat} {p : Int × Int} (hp : p ∈ frI s at_ M) : (at_ : Int) ≤ p.1 ∧ p.1 < ((at_ + M : Nat) : Int) ∧ (at_ : Int) ≤ p.2 ∧ p.2 < ((at_ + M : Nat) : Int) := by
 obtain ⟨j, hj, k, hk, rfl⟩ := mem_frI.1 hp
 have := kF_lt h hk
 unfold prI swP
 split <;> simp only <;> omega
theorem usedN_mem {a n : Nat} {x : Int} : x ∈ usedN a n ↔ (a : Int) ≤ x ∧ x < ((a + n : Nat) : Int) := by
 unfold usedN
 rw [List.mem_map]
 constructor
 · rintro ⟨i, hi, rfl⟩
   have := List.mem_range.1 hi
   omega
 · intro h
   exact ⟨(x - a).toNat, List.mem_range.2 (by omega), by omega⟩
theorem usedN_get {a n k : Nat} {x : Int} : (usedN a n)[k]? = some x ↔ k < n ∧ x = ((a + k : Nat) : Int) := by
 constructor
 · intro h
   have hk := (List.getElem?_eq_some_iff.1 h).1
   rw [usedN_len] at hk
   rw [usedN_at hk] at h
   exact ⟨hk, (Option.some.inj h).symm⟩
 · rintro ⟨hk, rfl⟩
   exact usedN_at hk
theorem CeI.one {n : Nat} {O : OfT} {P : List (List Int)} {cr : List (Int × Int)} {next : Nat} (h : CeI n O P cr next) {s : Stc} (hs : CellOk s) (hk : ¬ (s.kind = 6 ∨ s.kind = 7)) : CeI n (stepO O s) (P ++ newsP s (usedN next (ofM s))) (cr ++ []) (next + ofM s) := by
 obtain ⟨l, hl, hlm⟩ : ∃ l, newsP s (usedN next (ofM s)) = [l] ∧ ∀ x, x ∈ l ↔ (next : Int) ≤ x ∧ x < ((next + ofM s : Nat) : Int) := by
  unfold newsP
  rw [if_neg hk]
  by_cases e : s.kind = 4
  · rw [if_pos e]; exact ⟨_, rfl, fun x => by rw [List.mem_reverse, usedN_mem]⟩
  · rw [if_neg e]; exact ⟨_, rfl, fun x => usedN_mem⟩
 have hG : ofG s = 1 := by unfold ofG; rw [if_neg hk]
 have hq : ∀ q x, x ∈ (newsP s (usedN next (ofM s))).getD q [] → q = 0 ∧ (next : Int) ≤ x ∧ x < ((next + ofM s : Nat) : Int) := fun q x hx => by
  rw [hl] at hx
  cases q with
  | zero => exact ⟨rfl, (hlm x).1 hx⟩
  | succ q => simp at hx
 refine h.step (by rw [hl, hG]; rfl) (fun q x hx => (hq q x hx).2) (fun i hi => ⟨0, by omega, ?_, fun q' _ hm => (hq q' _ hm).1, ?_⟩) (fun a b => ?_) (fun p hp => rng_frI hs hp) (nodup_frI s next _) (fun c hc => by cases hc)
 · rw [hl]
   exact (hlm _).2 (by omega)
 · unfold toF; rw [if_neg hk]; rfl
 · have hpr : (∃ q, bfP ((newsP s (usedN next (ofM s))).getD q []) a b) ↔ bfP l a b := by
    rw [hl]
    constructor
    · rintro ⟨q, hp⟩
      cases q with
      | zero => exact hp
      | succ q => exact absurd hp (by simp; exact pr_nil)
    · exact fun hp => ⟨0, hp⟩
   rw [hpr]
   have hnc : ¬ ∃ c ∈ ([] : List (Int × Int)), hdP (P ++ newsP s (usedN next (ofM s))) c.1 = a ∧ hdP (P ++ newsP s (usedN next (ofM s))) c.2 = b := fun ⟨c, hc, _⟩ => by cases hc
   rw [or_iff_left hnc, mem_frI]
   unfold newsP at hl
   rw [if_neg hk] at hl
   by_cases e3 : s.kind = 3
   · rw [if_neg (by omega)] at hl
     obtain rfl : usedN next (ofM s) = l := by simpa using hl
     have hkf : ∀ j, kF s j = j := fun j => by unfold kF; rw [if_pos (Or.inl e3)]
     have hpi : ∀ j k, prI s next j k = (((next + k : Nat) : Int), ((next + j : Nat) : Int)) := fun j k => by
      unfold prI swF swP
      rw [e3]
      simp
     simp only [hkf, hpi]
     constructor
     · rintro ⟨j, hj, k, hk2, e⟩
       simp only [Prod.mk.injEq] at e
       exact ⟨k, j, hk2, usedN_get.2 ⟨by omega, e.1.symm⟩, usedN_get.2 ⟨hj, e.2.symm⟩⟩
     · rintro ⟨k, j, hkj, h1, h2⟩
       obtain ⟨h1', rfl⟩ := usedN_get.1 h1
       obtain ⟨h2', rfl⟩ := usedN_get.1 h2
       exact ⟨j, h2', k, hkj, rfl⟩
   · by_cases e4 : s.kind = 4
     · rw [if_pos e4] at hl
       obtain rfl : (usedN next (ofM s)).reverse = l := by simpa using hl
       have hkf : ∀ j, kF s j = j := fun j => by unfold kF; rw [if_pos (Or.inr e4)]
       have hpi : ∀ j k, prI s next j k = (((next + j : Nat) : Int), ((next + k : Nat) : Int)) := fun j k => by
        unfold prI swF swP
        rw [e4]
        simp
       have hrv : ∀ k x, (usedN next (ofM s)).reverse[k]? = some x ↔ k < ofM s ∧ x = ((next + (ofM s - 1 - k) : Nat) : Int) := fun k x => by
        by_cases hk : k < ofM s
        · rw [List.getElem?_reverse (by rw [usedN_len]; exact hk), usedN_len, usedN_get]
          constructor
          · rintro ⟨-, e⟩; exact ⟨hk, e⟩
          · rintro ⟨-, e⟩; exact ⟨by omega, e⟩
        · rw [List.getElem?_eq_none (by rw [List.length_reverse, usedN_len]; omega)]
          constructor
          · intro h; cases h
          · rintro ⟨h, -⟩; exact absurd h hk
       simp only [hkf, hpi]
       constructor
       · rintro ⟨j, hj, k, hk2, e⟩
         simp only [Prod.mk.injEq] at e
         exact ⟨ofM s - 1 - j, ofM s - 1 - k, by omega, (hrv _ _).2 ⟨by omega, by omega⟩, (hrv _ _).2 ⟨by omega, by omega⟩⟩
       · rintro ⟨k, j, hkj, h1, h2⟩
         obtain ⟨h1', rfl⟩ := (hrv _ _).1 h1
         obtain ⟨h2', rfl⟩ := (hrv _ _).1 h2
         exact ⟨ofM s - 1 - k, by omega, ofM s - 1 - j, by omega, rfl⟩
     · rw [if_neg e4] at hl
       obtain rfl : usedN next (ofM s) = l := by simpa using hl
       have hkf : ∀ j, kF s j = 0 := fun j => by unfold kF; rw [if_neg (by omega), if_neg hk]
       have hM : ofM s ≤ 1 := by unfold ofM; rw [if_neg (show ¬ (s.kind = 3 ∨ s.kind = 4) by omega), if_neg hk]; split <;> omega
       constructor
       · rintro ⟨j, -, k, h0, -⟩; rw [hkf] at h0; omega
       · rintro ⟨k, j, hkj, -, h2⟩
         have := (usedN_get.1 h2).1
         omega
theorem CeI.cable {n : Nat} {O : OfT} {P : List (List Int)} {cr : List (Int × Int)} {next : Nat} (h : CeI n O P cr next) {s : Stc} (hs : CellOk s) (hk : s.kind = 6 ∨ s.kind = 7) : CeI n (stepO O s) (P ++ newsP s (usedN next (ofM s))) (cr ++ crossN s P.length s.a.toNat) (next + ofM s) := by
 obtain ⟨a1, a2, b1, b2⟩ := hs.rng.2 hk
 obtain ⟨a, ha⟩ : ∃ a : Nat, s.a = (a : Int) := ⟨s.a.toNat, by omega⟩
 obtain ⟨b, hb⟩ : ∃ b : Nat, s.b = (b : Int) := ⟨s.b.toNat, by omega⟩
 have hM : ofM s = a + b := by unfold ofM; rw [if_neg (by omega), if_neg (by omega), if_pos hk]; omega
 have hG : ofG s = a + b := by unfold ofG; rw [if_pos hk]; omega
 have hea : s.a.toNat = a := by omega
 have heb : s.b.toNat = b := by omega
 have hget : ∀ q, q < a + b → (newsP s (usedN next (ofM s))).getD q [] = [((next + (if q < b then a + q else q - b) : Nat) : Int)] := fun q hq => by
  unfold newsP
  rw [if_pos hk, List.getD_eq_getElem?_getD, List.getElem?_map, hM, hea]
  by_cases e : q < b
  · rw [List.getElem?_append_left (by rw [List.length_drop, usedN_len]; omega), List.getElem?_drop, usedN_at (by omega), if_pos e]; rfl
  · rw [List.getElem?_append_right (by rw [List.length_drop, usedN_len]; omega), List.length_drop, usedN_len, List.getElem?_take, if_pos (by omega), usedN_at (by omega), if_neg e]
    have : q - (a + b - a) = q - b := by omega
    rw [this]; rfl
 have hfar : ∀ q, ¬ q < a + b → (newsP s (usedN next (ofM s))).getD q [] = [] := fun q hq => by
  refine getD_far ?_
  unfold newsP
  rw [if_pos hk, List.length_map, List.length_append, List.length_drop, List.length_take, usedN_len, hM, hea]
  omega
 have hlen : (newsP s (usedN next (ofM s))).length = a + b := by
  unfold newsP
  rw [if_pos hk, List.length_map, List.length_append, List.length_drop, List.length_take, usedN_len, hM, hea]
  omega
 have hq : ∀ q x, x ∈ (newsP s (usedN next (ofM s))).getD q [] → q < a + b ∧ x = ((next + (if q < b then a + q else q - b) : Nat) : Int) := fun q x hx => by
  by_cases e : q < a + b
  · rw [hget q e] at hx
    exact ⟨e, List.mem_singleton.1 hx⟩
  · rw [hfar q e] at hx; cases hx
 obtain ⟨Q, hQ⟩ : ∃ Q, Q = newsP s (usedN next (ofM s)) := ⟨_, rfl⟩
 rw [← hQ] at hget hfar hlen hq ⊢
 have hhd : ∀ q, q < a + b → (P ++ Q).getD (P.length + q) [] = [((next + (if q < b then a + q else q - b) : Nat) : Int)] := fun q hq => by rw [getD_app_ge, hget q hq]
 have hcm : ∀ c, c ∈ crossN s P.length a ↔ ∃ i, i < a ∧ ∃ m, m < b ∧ crossP s P.length i m = c := fun c => by
  unfold crossN crossI
  simp only [List.mem_flatMap, List.mem_map, List.mem_range, heb]
 rw [hea]
 refine h.step (by rw [hlen, hG]) (fun q x hx => ?_) (fun i hi => ⟨if i < a then i + b else i - a, ?_, ?_, fun q' hq' hm => ?_, ?_⟩) (fun x y => ?_) (fun p hp => rng_frI hs hp) (nodup_frI s next _) (fun c hc => ?_)
 · obtain ⟨h1, h2⟩ := hq q x hx
   rw [hM, h2]
   split <;> omega
 · rw [hG]; rw [hM] at hi
   split <;> omega
 · rw [hM] at hi
   rw [hget _ (by split <;> omega), List.mem_singleton]
   congr 2
   split <;> split <;> omega
 · obtain ⟨h1, h2⟩ := hq q' _ hm
   rw [hM] at hi
   have h3 : i = if q' < b then a + q' else q' - b := by omega
   split <;> split at h3 <;> omega
 · rw [hM] at hi
   unfold toF
   rw [if_pos hk, ha, hb]
   by_cases e : i < a
   · rw [if_pos e, Int.emod_eq_of_lt (by omega) (by omega)]
     omega
   · rw [if_neg e, show (i : Int) + (b : Int) = ((i - a : Nat) : Int) + ((a : Int) + (b : Int)) by omega, Int.add_emod_right, Int.emod_eq_of_lt (by omega) (by omega)]
     omega
 · have hnp : ¬ ∃ q, bfP (Q.getD q []) x y := fun ⟨q, hp⟩ => by
    by_cases e : q < a + b
    · rw [hget q e] at hp; exact pr_one hp
    · rw [hfar q e] at hp; exact pr_nil hp
   rw [or_iff_right hnp, mem_frI, hM]
   have hkf : ∀ j, kF s j = if a ≤ j then a else 0 := fun j => by
    unfold kF
    rw [if_neg (by omega), if_pos hk, ha]
    split <;> split <;> omega
   have hh : ∀ q, q < a + b → hdP (P ++ Q) ((P.length + q : Nat) : Int) = ((next + (if q < b then a + q else q - b) : Nat) : Int) := fun q hq => by
    unfold hdP
    rw [Int.toNat_natCast, hhd q hq]; rfl
   rcases hk with e | e
   · have hpi : ∀ j k, prI s next j k = (((next + k : Nat) : Int), ((next + j : Nat) : Int)) := fun j k => by
      unfold prI swF swP
      rw [e]
      simp
     have hcp : ∀ i m, crossP s P.length i m = (((P.length + (b + i) : Nat) : Int), ((P.length + m : Nat) : Int)) := fun i m => by
      unfold crossP
      rw [if_neg (by omega), heb, Nat.add_assoc]
     constructor
     · rintro ⟨j, hj, k, hkj, e1⟩
       rw [hkf] at hkj
       rw [hpi] at e1
       split at hkj
       · simp only [Prod.mk.injEq] at e1
         refine ⟨_, (hcm _).2 ⟨k, hkj, j - a, by omega, rfl⟩, ?_, ?_⟩
         · rw [hcp]; simp only
           rw [hh _ (by omega), if_neg (by omega), ← e1.1]
           congr 2; omega
         · rw [hcp]; simp only
           rw [hh _ (by omega), if_pos (by omega), ← e1.2]
           congr 2; omega
       · omega
     · rintro ⟨c, hc, e1, e2⟩
       obtain ⟨i, hi, m, hm, rfl⟩ := (hcm c).1 hc
       rw [hcp] at e1 e2
       simp only at e1 e2
       rw [hh _ (by omega), if_neg (by omega)] at e1
       rw [hh _ (by omega), if_pos (by omega)] at e2
       refine ⟨a + m, by omega, i, by rw [hkf, if_pos (by omega)]; exact hi, ?_⟩
       rw [hpi, ← e1, ← e2]
       congr 2
       congr 2; omega
   · have hpi : ∀ j k, prI s next j k = (((next + j : Nat) : Int), ((next + k : Nat) : Int)) := fun j k => by
      unfold prI swF swP
      rw [e]
      simp
     have hcp : ∀ i m, crossP s P.length i m = (((P.length + m : Nat) : Int), ((P.length + (b + i) : Nat) : Int)) := fun i m => by
      unfold crossP
      rw [if_pos (by omega), heb, Nat.add_assoc]
     constructor
     · rintro ⟨j, hj, k, hkj, e1⟩
       rw [hkf] at hkj
       rw [hpi] at e1
       split at hkj
       · simp only [Prod.mk.injEq] at e1
         refine ⟨_, (hcm _).2 ⟨k, hkj, j - a, by omega, rfl⟩, ?_, ?_⟩
         · rw [hcp]; simp only
           rw [hh _ (by omega), if_pos (by omega), ← e1.1]
           congr 2; omega
         · rw [hcp]; simp only
           rw [hh _ (by omega), if_neg (by omega), ← e1.2]
           congr 2; omega
       · omega
     · rintro ⟨c, hc, e1, e2⟩
       obtain ⟨i, hi, m, hm, rfl⟩ := (hcm c).1 hc
       rw [hcp] at e1 e2
       simp only at e1 e2
       rw [hh _ (by omega), if_pos (by omega)] at e1
       rw [hh _ (by omega), if_neg (by omega)] at e2
       refine ⟨a + m, by omega, i, by rw [hkf, if_pos (by omega)]; exact hi, ?_⟩
       rw [hpi, ← e1, ← e2]
       congr 2
       congr 2; omega
 · obtain ⟨i, hi, m, hm, rfl⟩ := (hcm c).1 hc
   rw [hlen]
   have h1 := hhd (b + i) (by omega)
   have h2 := hhd m (by omega)
   unfold crossP
   rw [heb, Nat.add_assoc]
   split <;> simp only [Int.toNat_natCast]
   · exact ⟨by omega, by omega, by omega, by omega, by omega, by omega, ⟨_, h2⟩, ⟨_, h1⟩⟩
   · exact ⟨by omega, by omega, by omega, by omega, by omega, by omega, ⟨_, h1⟩, ⟨_, h2⟩⟩
theorem ce_run {l : List Stc} (hl : ∀ s ∈ l, CellOk s) (n : Nat) (row : Int) : ∀ k, k ≤ l.length → CeI n (runO l k) ((rowRun row l (startP n) k).lp.map Lp.par) (rowRun row l (startP n) k).cross (rowRun row l (startP n) k).next
 | 0, _ => CeI.start n
 | k + 1, hk => by
   have h := ce_run hl n row k (by omega)
   have hx : l[k]? = some l[k] := List.getElem?_eq_getElem (by omega)
   have hc := hl _ (List.getElem_mem (show k < l.length by omega))
   have hu : (usesS l[k]).toNat = ofM l[k] := by have := hc.uses; omega
   rw [runO_next hx, rowRun_next hx]
   obtain ⟨t, ht⟩ : ∃ t, t = rowRun row l (startP n) k := ⟨_, rfl⟩
   rw [← ht] at h ⊢
   unfold stepC
   rw [hu]
   simp only
   rw [List.map_append, newsL_par hc]
   unfold crossL
   by_cases e : l[k].kind = 6 ∨ l[k].kind = 7
   · rw [if_pos e]
     have := h.cable hc e
     rwa [List.length_map] at this
   · rw [if_neg e]
     exact h.one hc e
theorem leP_iff (x y : Int × Int) : (!(decide (cmpP y x < 0))) = true ↔ ¬ (y.1 < x.1 ∨ (y.1 = x.1 ∧ y.2 < x.2)) := by
 have h := cmpP_ge y x
 have h2 : decide (cmpP y x < 0) = !(decide (0 ≤ cmpP y x)) := by
  by_cases hc : cmpP y x < 0
  · rw [decide_eq_true hc, decide_eq_false (by omega)]; rfl
  · rw [decide_eq_false hc, decide_eq_true (by omega)]; rfl
 rw [h2, h, Bool.not_not]
 unfold ltP
 simp
 omega
def firI (f : Nat → Nat → Bool) (i k : Nat) : List (Int × Int) := ((List.range k).filter (f i)).map fun j : Nat => ((i : Int), (j : Int))
def firN (n : Nat) (f : Nat → Nat → Bool) (i : Nat) : List (Int × Int) := (List.range i).flatMap fun j => firI f j n
theorem firN_next (n : Nat) (f : Nat → Nat → Bool) (i : Nat) : firN n f (i + 1) = firN n f i ++ firI f i n := by unfold firN; rw [List.range_succ, List.flatMap_append]; simp
theorem firI_len (f : Nat → Nat → Bool) (i k : Nat) : (firI f i k).length ≤ k := by
 unfold firI
 rw [List.length_map]
 have := List.length_filter_le (f i) (List.range k)
 rwa [List.length_range] at this
theorem firN_len (n : Nat) (f : Nat → Nat → Bool) : ∀ i, (firN n f i).length ≤ i * n
 | 0 => by simp [firN]
 | i + 1 => by
   rw [firN_next, List.length_append, Nat.add_mul, Nat.one_mul]
   have := firN_len n f i
   have := firI_len f i n
   omega
theorem mem_firN {n : Nat} {f : Nat → Nat → Bool} {i : Nat} {p : Int × Int} : p ∈ firN n f i ↔ ∃ a b : Nat, a < i ∧ b < n ∧ f a b = true ∧ p = ((a : Int), (b : Int)) := by
 unfold firN firI
 simp only [List.mem_flatMap, List.mem_map, List.mem_filter, List.mem_range]
 constructor
 · rintro ⟨a, ha, b, ⟨hb, hf⟩, rfl⟩
   exact ⟨a, b, ha, hb, hf, rfl⟩
 · rintro ⟨a, b, ha, hb, hf, rfl⟩
   exact ⟨a, ha, b, ⟨hb, hf⟩, rfl⟩
def ltQ (p q : Int × Int) : Prop := p.1 < q.1 ∨ (p.1 = q.1 ∧ p.2 < q.2)
theorem firN_up (n : Nat) (f : Nat → Nat → Bool) : ∀ i, (firN n f i).Pairwise ltQ
 | 0 => List.Pairwise.nil
 | i + 1 => by
   rw [firN_next, List.pairwise_append]
   refine ⟨firN_up n f i, ?_, fun p hp q hq => ?_⟩
   · unfold firI
     rw [List.pairwise_map]
     exact (List.pairwise_lt_range.filter _).imp fun h => Or.inr ⟨rfl, by simp only; omega⟩
   · obtain ⟨a, b, ha, -, -, rfl⟩ := mem_firN.1 hp
     unfold firI at hq
     obtain ⟨j, -, rfl⟩ := List.mem_map.1 hq
     exact Or.inl (by simp only; omega)
theorem sort_fir {L : List (Int × Int)} {n : Nat} {f : Nat → Nat → Bool} (hn : L.Nodup) (hm : ∀ p, p ∈ L ↔ ∃ a b : Nat, a < n ∧ b < n ∧ f a b = true ∧ p = ((a : Int), (b : Int))) : sortP L = firN n f n := by
 have tr : ∀ a b c : Int × Int, (!(decide (cmpP b a < 0))) = true → (!(decide (cmpP c b < 0))) = true → (!(decide (cmpP c a < 0))) = true := fun a b c h1 h2 => by
  rw [leP_iff] at *; omega
 have tt : ∀ a b : Int × Int, ((!(decide (cmpP b a < 0))) || (!(decide (cmpP a b < 0)))) = true := fun a b => by
  rw [Bool.or_eq_true, leP_iff, leP_iff]; omega
 have hR : (firN n f n).Nodup := (firN_up n f n).imp fun {p q} h e => by
  subst e
  unfold ltQ at h
  omega
 refine List.Perm.eq_of_pairwise (le := fun a b => (!(decide (cmpP b a < 0))) = true) (fun a b _ _ h1 h2 => ?_) (List.pairwise_mergeSort tr tt L) ?_ ?_
 · rw [leP_iff] at h1 h2
   exact Prod.ext (by omega) (by omega)
 · refine (firN_up n f n).imp fun {p q} h => ?_
   rw [leP_iff]
   unfold ltQ at h
   omega
 · exact (List.mergeSort_perm L _).trans ((List.perm_ext_iff_of_nodup hn hR).2 fun x => by rw [hm, mem_firN])
theorem of_ref {l : List Stc} (h0 : allE l = 0) (hk : l.any kindB = false) (hu : sumU l ≤ 40) {n : Nat} (hn : (n : Int) = sumU l) {t : Pw} (ht : t = rowRun 1 l (startP n) l.length) :
 ∃ nd, t.lp.length = n + nd ∧ nd ≤ 12 * l.length ∧
 (∀ j, n ≤ j → ∀ x ∈ (t.lp.map Lp.par).getD j [], 0 ≤ x ∧ x < (n : Int)) ∧
 (∀ c ∈ t.cross, 0 ≤ c.1 ∧ n ≤ c.1.toNat ∧ c.1.toNat < t.lp.length ∧ 0 ≤ c.2 ∧ n ≤ c.2.toNat ∧ c.2.toNat < t.lp.length ∧ (∃ a, (t.lp.map Lp.par).getD c.1.toNat [] = [a]) ∧ ∃ a, (t.lp.map Lp.par).getD c.2.toNat [] = [a]) ∧
 (∀ u, 0 ≤ toG (t.lp.map Lp.par) n nd u ∧ toG (t.lp.map Lp.par) n nd u ≤ (nd : Int)) ∧
 (∀ f : Nat → Nat → Bool, (∀ a b, a < n → b < n → (f a b = true ↔ befA n (t.lp.map Lp.par) t.cross a b)) →
   ofE l = if farB ((List.range n).map (toG (t.lp.map Lp.par) n nd)) then (⟨[], []⟩, 16) else (⟨(List.range n).map (toG (t.lp.map Lp.par) n nd), firN n f n⟩, 0)) := by
 have hok := (all_zero h0).2.1
 have hc : ∀ s ∈ l, CellOk s := fun s hs => cell_ok (hok s hs) (by rw [List.any_eq_false] at hk; simpa using hk s hs)
 have hr := ce_run hc n 1 l.length (Nat.le_refl _)
 obtain ⟨r1, r2, -⟩ := runO_len hc l.length (Nat.le_refl _)
 rw [List.take_length] at r2
 rw [← ht] at hr
 have hlen : (runO l l.length).to_.length = n := by omega
 have hto : (runO l l.length).to_ = (List.range n).map (toG (t.lp.map Lp.par) n (runO l l.length).nd) := by
  apply List.ext_getElem (by rw [hlen]; simp)
  intro u h1 h2
  simp only [List.getElem_map, List.getElem_range]
  rw [hr.tz u (by rw [hr.nx]; exact h1), List.getD_eq_getElem?_getD, List.getElem?_eq_getElem h1]; rfl
 refine ⟨(runO l l.length).nd, by have := hr.ln; rw [List.length_map] at this; exact this, r1, fun j hj x hx => by have := hr.pr j hj x hx; rw [hr.nx, hlen] at this; exact this, fun c hcc => by have := hr.cx c hcc; rw [List.length_map] at this; exact this, ?_, fun f hf => ?_⟩
 · have hG : ∀ (P : List (List Int)) (n u m : Nat), 0 ≤ toG P n m u ∧ toG P n m u ≤ (m : Int) := fun P n u m => by
    induction m with
    | zero => exact ⟨Int.le_refl _, Int.le_refl _⟩
    | succ m ih =>
      have e : toG P n (m + 1) u = if (u : Int) ∈ P.getD (n + m) [] then (m : Int) else toG P n m u := rfl
      rw [e]
      split <;> omega
   exact fun u => hG _ _ u _
 · unfold ofE
   rw [if_neg (by rw [h0]; simp), if_neg (by rw [hk]; simp), if_neg (by omega), ← hto]
   split
   · rfl
   · rw [sort_fir (n := n) (f := f) hr.nd fun p => ?_]
     constructor
     · intro hp
       have h3 := hr.rg p hp
       rw [hr.nx, hlen] at h3
       refine ⟨p.1.toNat, p.2.toNat, by omega, by omega, ?_, Prod.ext (by simp only; omega) (by simp only; omega)⟩
       rw [hf _ _ (by omega) (by omega), show ((p.1.toNat : Nat) : Int) = p.1 by omega, show ((p.2.toNat : Nat) : Int) = p.2 by omega]
       exact (hr.fr p.1 p.2).1 hp
     · rintro ⟨a, b, ha, hb, hfab, rfl⟩
       exact (hr.fr _ _).2 ((hf a b ha hb).1 hfab)
theorem ofE_few (l : List Stc) (hl : l.length ≤ 300) : (ofE l).1.to_.length ≤ 100000 ∧ (ofE l).1.first.length ≤ 1000000 := by
 unfold ofE
 split
 · exact ⟨by simp, by simp⟩
 rename_i h0
 split
 · exact ⟨by simp, by simp⟩
 rename_i hk
 split
 · exact ⟨by simp, by simp⟩
 rename_i hu
 split
 · exact ⟨by simp, by simp⟩
 · have hok := (all_zero (Classical.not_not.1 h0)).2.1
   have hk' : l.any kindB = false := by simpa using hk
   have hc : ∀ s ∈ l, CellOk s := fun s hs => cell_ok (hok s hs) (by rw [List.any_eq_false] at hk'; simpa using hk' s hs)
   obtain ⟨-, r2, r3⟩ := runO_len hc l.length (Nat.le_refl _)
   rw [List.take_length] at r2
   refine ⟨by simp only; omega, ?_⟩
   simp only
   unfold sortP
   rw [List.length_mergeSort]
   omega
end Go.Proofs.YtflpikickbellaaGreat
