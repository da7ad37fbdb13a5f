/- TransferKnits, plain. -/
import Derived.Test.YtflpikickbellaaGreatZ30
import Derived.Test.YtflpikickbellaaGreatZ33
namespace Go.Proofs.YtflpikickbellaaGreat
open Go.RowKit Go.Sort
set_option maxRecDepth 100000
theorem ahead_mem : ∀ {L : List Int} {a b : Int}, aheadE L a b = true → b ∈ L
 | [], _, _, h => by cases h
 | x :: t, a, b, h => by
   have e : aheadE (x :: t) a b = if x = a then (x :: t).any (fun y => decide (y = b)) else aheadE t a b := rfl
   rw [e] at h
   split at h
   · obtain ⟨y, h1, h2⟩ := List.any_eq_true.1 h
     rw [← of_decide_eq_true h2]; exact h1
   · exact List.mem_cons_of_mem _ (ahead_mem h)
theorem ahead_eq : ∀ {L M : List Int}, L.Nodup → M.Nodup → (∀ x, x ∈ L ↔ x ∈ M) → (∀ (k m : Nat) (a b : Int), k < m → M[k]? = some a → M[m]? = some b → aheadE L a b = true) → L = M
 | [], M, _, _, hm, _ => by
   cases M with
   | nil => rfl
   | cons y t => exact absurd ((hm y).2 List.mem_cons_self) (by simp)
 | x :: L, M, hL, hM, hm, ha => by
   cases M with
   | nil => exact absurd ((hm x).1 List.mem_cons_self) (by simp)
   | cons y M =>
     rw [List.nodup_cons] at hL hM
     have hxy : x = y := by
      apply Classical.byContradiction
      intro hne
      have hx : x ∈ M := by
       rcases List.mem_cons.1 ((hm x).1 List.mem_cons_self) with h | h
       · exact absurd h hne
       · exact h
      obtain ⟨m, hmx⟩ := List.mem_iff_getElem?.1 hx
      have h1 := ha 0 (m + 1) y x (by omega) rfl (by rw [List.getElem?_cons_succ]; exact hmx)
      have e : aheadE (x :: L) y x = if x = y then (x :: L).any (fun z => decide (z = x)) else aheadE L y x := rfl
      rw [e, if_neg hne] at h1
      exact hL.1 (ahead_mem h1)
     subst hxy
     congr 1
     refine ahead_eq hL.2 hM.2 (fun z => ?_) (fun k m a b hkm h1 h2 => ?_)
     · constructor
       · intro hz
         rcases List.mem_cons.1 ((hm z).1 (List.mem_cons_of_mem _ hz)) with h | h
         · subst h; exact absurd hz hL.1
         · exact h
       · intro hz
         rcases List.mem_cons.1 ((hm z).2 (List.mem_cons_of_mem _ hz)) with h | h
         · subst h; exact absurd hz hM.1
         · exact h
     · have h3 := ha (k + 1) (m + 1) a b (by omega) (by rw [List.getElem?_cons_succ]; exact h1) (by rw [List.getElem?_cons_succ]; exact h2)
       have e : aheadE (x :: L) a b = if x = a then (x :: L).any (fun z => decide (z = b)) else aheadE L a b := rfl
       rw [e, if_neg (fun h => hM.1 (by rw [h]; exact List.mem_of_getElem? h1))] at h3
       exact h3
theorem heldT_nd {s : Sft} {l : List Int} (hF : OrdF s l) (u : Int) : (heldT s l u).Nodup := by
 unfold heldT
 rw [List.nodup_append]
 refine ⟨by unfold frT; split <;> simp, hF.nd.filter _, fun a ha b hb e => ?_⟩
 subst e
 have hb := (List.mem_filter.1 hb).1
 obtain ⟨j, rfl, hj⟩ := hF.ok a hb
 have hm := (hF.mem j hj).1 hb
 unfold frT at ha
 split at ha
 · rename_i hc
   rw [List.mem_singleton] at ha
   rw [← ha, Int.toNat_natCast] at hc
   exact hc.2.2 ⟨hc.2.1, hm⟩
 · cases ha
theorem heldT_mem {s : Sft} {l : List Int} (hF : OrdF s l) (u x : Int) : x ∈ heldT s l u ↔ ∃ i : Nat, i < s.n ∧ x = (i : Int) ∧ s.to_.getD i 0 = u := by
 constructor
 · intro hx
   unfold heldT at hx
   rcases List.mem_append.1 hx with hx | hx
   · have hx' := hx
     unfold frT at hx
     split at hx
     · rename_i hc
       rw [List.mem_singleton] at hx
       subst hx
       obtain ⟨t, rfl⟩ : ∃ t : Nat, x = (t : Int) := ⟨x.toNat, by omega⟩
       rw [frT_held] at hx'
       split at hx'
       · rename_i hd
         exact ⟨t, hd.1, rfl, hd.2.1⟩
       · cases hx'
     · cases hx
   · obtain ⟨h1, h2⟩ := List.mem_filter.1 hx
     obtain ⟨i, rfl, hi⟩ := hF.ok x h1
     rw [Int.toNat_natCast] at h2
     exact ⟨i, hi, rfl, of_decide_eq_true h2⟩
 · rintro ⟨i, hi, rfl, rfl⟩
   exact tr_has hF hi
theorem news_perm {s : Stc} (used : List Int) : (newsP s used).flatten.Perm used := by
 have hs : ∀ l : List Int, (l.map fun x => [x]).flatten = l := fun l => by
  induction l with
  | nil => rfl
  | cons a t ih => rw [List.map_cons, List.flatten_cons, ih]; rfl
 unfold newsP
 split
 · rw [hs]
   exact List.perm_append_comm.trans (by rw [List.take_append_drop])
 · split
   · rw [List.flatten_cons, List.flatten_nil, List.append_nil]
     exact List.reverse_perm _
   · rw [List.flatten_cons, List.flatten_nil, List.append_nil]
theorem usedN_app (a m k : Nat) : usedN a (m + k) = usedN a m ++ usedN (a + m) k := by
 unfold usedN
 rw [List.range_add, List.map_append, List.map_map]
 congr 1
 refine List.map_congr_left fun i _ => ?_
 show ((a + (m + i) : Nat) : Int) = ((a + m + i : Nat) : Int)
 omega
theorem ce_perm {l : List Stc} (hl : ∀ s ∈ l, CellOk s) (n : Nat) (row : Int) : ∀ k, k ≤ l.length → n ≤ (rowRun row l (startP n) k).lp.length ∧ ((((rowRun row l (startP n) k).lp.map Lp.par).drop n).flatten).Perm (usedN 0 (rowRun row l (startP n) k).next)
 | 0, _ => by
   refine ⟨by show n ≤ (startP n).lp.length; rw [startP_len]; exact Nat.le_refl _, ?_⟩
   show (((startP n).lp.map Lp.par).drop n).flatten.Perm (usedN 0 0)
   rw [List.drop_eq_nil_of_le (by rw [List.length_map, startP_len]; exact Nat.le_refl _)]
   exact List.Perm.nil
 | k + 1, hk => by
   obtain ⟨h0, h1⟩ := ce_perm hl n row k (by omega)
   have hx : l[k]? = some l[k] := List.getElem?_eq_getElem (by omega)
   have hc := hl _ (List.getElem_mem (show k < l.length by omega))
   rw [rowRun_next hx]
   obtain ⟨t, ht⟩ : ∃ t, t = rowRun row l (startP n) k := ⟨_, rfl⟩
   rw [← ht] at h0 h1 ⊢
   unfold stepC
   simp only
   refine ⟨by rw [List.length_append]; omega, ?_⟩
   rw [List.map_append, newsL_par hc, List.drop_append_of_le_length (by rw [List.length_map]; exact h0), List.flatten_append, usedN_app, Nat.zero_add]
   exact h1.append (news_perm _)
theorem mem_flat {P : List (List Int)} {n : Nat} {x : Int} : x ∈ (P.drop n).flatten ↔ ∃ q, x ∈ P.getD (n + q) [] := by
 rw [List.mem_flatten]
 constructor
 · rintro ⟨l, hl, hx⟩
   obtain ⟨q, hq⟩ := List.mem_iff_getElem?.1 hl
   rw [List.getElem?_drop] at hq
   exact ⟨q, by rw [List.getD_eq_getElem?_getD, hq]; exact hx⟩
 · rintro ⟨q, hx⟩
   rw [List.getD_eq_getElem?_getD] at hx
   cases h : P[n + q]? with
   | none => rw [h] at hx; cases hx
   | some l =>
     rw [h] at hx
     exact ⟨l, List.mem_iff_getElem?.2 ⟨q, by rw [List.getElem?_drop]; exact h⟩, hx⟩
theorem flat_one {P : List (List Int)} {n : Nat} (h : ((P.drop n).flatten).Nodup) {q q' : Nat} {x : Int} (h1 : x ∈ P.getD (n + q) []) (h2 : x ∈ P.getD (n + q') []) : q = q' := by
 obtain ⟨-, hp⟩ := List.pairwise_flatten.1 h
 have key : ∀ a b : Nat, a < b → x ∈ P.getD (n + a) [] → x ∈ P.getD (n + b) [] → False := fun a b hab ha hb => by
  rw [List.getD_eq_getElem?_getD] at ha hb
  cases ea : P[n + a]? with
  | none => rw [ea] at ha; cases ha
  | some la =>
    cases eb : P[n + b]? with
    | none => rw [eb] at hb; cases hb
    | some lb =>
      rw [ea] at ha
      rw [eb] at hb
      have fa : (P.drop n)[a]? = some la := by rw [List.getElem?_drop]; exact ea
      have fb : (P.drop n)[b]? = some lb := by rw [List.getElem?_drop]; exact eb
      obtain ⟨ga, rfl⟩ := List.getElem?_eq_some_iff.1 fa
      obtain ⟨gb, rfl⟩ := List.getElem?_eq_some_iff.1 fb
      exact List.pairwise_iff_getElem.1 hp a b ga gb hab x ha x hb rfl
 rcases Nat.lt_trichotomy q q' with h | h | h
 · exact (key q q' h h1 h2).elim
 · exact h
 · exact (key q' q h h2 h1).elim
theorem flat_nd {P : List (List Int)} {n : Nat} (h : ((P.drop n).flatten).Nodup) (q : Nat) : (P.getD (n + q) []).Nodup := by
 have h := List.pairwise_flatten.1 h
 rw [List.getD_eq_getElem?_getD]
 cases e : P[n + q]? with
 | none => exact List.Pairwise.nil
 | some l => exact h.1 l (List.mem_iff_getElem?.2 ⟨q, by rw [List.getElem?_drop]; exact e⟩)
theorem usedN_nd (a m : Nat) : (usedN a m).Nodup := by
 unfold usedN
 rw [List.Nodup, List.pairwise_map]
 exact List.nodup_range.imp fun h e => h (by omega)
structure TkS (l : List Stc) (s : Sft) (n nd : Nat) (P : List (List Int)) : Prop where
 sn : s.n = n
 few : n ≤ 40
 uses : (n : Int) = sumU l
 all : allE l = 0
 kind : l.any kindB = false
 len : P.length = n + nd
 ndl : nd ≤ 2400
 lp : P = (rowRun 1 l (startP n) l.length).lp.map Lp.par
 one : ∀ u q : Nat, u < n → (s.to_.getD u 0 = (q : Int) ↔ (u : Int) ∈ P.getD (n + q) [])
 rng : ∀ q : Nat, ∀ x ∈ P.getD (n + q) [], 0 ≤ x ∧ x < (n : Int)
 nd_ : ∀ q : Nat, (P.getD (n + q) []).Nodup
 has : ∀ u : Nat, u < n → ∃ q, q < nd ∧ s.to_.getD u 0 = (q : Int)
 ord : ∀ (q : Nat) (a b : Int), bfP (P.getD (n + q) []) a b → (a, b) ∈ s.first
 crn : ∀ c ∈ (rowRun 1 l (startP n) l.length).cross, hdP P c.1 ≠ hdP P c.2
 frst : ∃ f : Nat → Nat → Bool, s.first = firN n f n ∧ ∀ a b, a < n → b < n → (f a b = true ↔ befA n P (rowRun 1 l (startP n) l.length).cross a b)
theorem ce_cross {l : List Stc} (hl : ∀ s ∈ l, CellOk s) (n : Nat) (row : Int) : ∀ k, k ≤ l.length → ∀ c ∈ (rowRun row l (startP n) k).cross, c.1 ≠ c.2
 | 0, _ => fun c hc => by cases hc
 | k + 1, hk => by
   intro c hc
   have hx : l[k]? = some l[k] := List.getElem?_eq_getElem (by omega)
   rw [rowRun_next hx] at hc
   unfold stepC at hc
   simp only at hc
   rcases List.mem_append.1 hc with h | h
   · exact ce_cross hl n row k (by omega) c h
   · unfold crossL at h
     split at h
     · unfold crossN crossI at h
       simp only [List.mem_flatMap, List.mem_map, List.mem_range] at h
       obtain ⟨i, -, j, hj, rfl⟩ := h
       unfold crossP
       split <;> (simp only; omega)
     · cases h
theorem tk_of {l : List Stc} (he : (ofE l).2 = 0) : ∃ n nd P, TkS l (ofE l).1 n nd P ∧ farB (ofE l).1.to_ = false := by
 have h0 : allE l = 0 := by
  apply Classical.byContradiction
  intro h
  have e : ofE l = (⟨[], []⟩, allE l) := by unfold ofE; rw [if_pos h]
  rw [e] at he
  exact h he
 have hk : l.any kindB = false := by
  cases h : l.any kindB with
  | false => rfl
  | true =>
    have e : ofE l = (⟨[], []⟩, 2) := by unfold ofE; rw [if_neg (by rw [h0]; simp), if_pos h]
    rw [e] at he
    exact absurd he (by decide)
 have hu : sumU l ≤ 40 := by
  apply Classical.byContradiction
  intro h
  have e : ofE l = (⟨[], []⟩, 4) := by unfold ofE; rw [if_neg (by rw [h0]; simp), if_neg (by rw [hk]; simp), if_pos (by omega)]
  rw [e] at he
  exact absurd he (by decide)
 have hok := (all_zero h0).2.1
 have hc : ∀ s ∈ l, CellOk s := fun s hs => cell_ok (hok s hs) (by rw [List.any_eq_false] at hk; simpa using hk s hs)
 obtain ⟨-, r2, -⟩ := runO_len hc l.length (Nat.le_refl _)
 rw [List.take_length] at r2
 obtain ⟨n, hn⟩ : ∃ n : Nat, (n : Int) = sumU l := ⟨_, r2⟩
 obtain ⟨t, ht⟩ : ∃ t, t = rowRun 1 l (startP n) l.length := ⟨_, rfl⟩
 obtain ⟨nd, q1, q2, q3, -, q5, q6⟩ := of_ref h0 hk hu hn ht
 have hr := ce_run hc n 1 l.length (Nat.le_refl _)
 obtain ⟨hp0, hp⟩ := ce_perm hc n 1 l.length (Nat.le_refl _)
 rw [← ht] at hr hp hp0
 have hnx : t.next = n := by have := hr.nx; omega
 rw [hnx] at hp
 obtain ⟨P, hP⟩ : ∃ P, P = t.lp.map Lp.par := ⟨_, rfl⟩
 rw [← hP] at hr hp q3 q5 q6
 have hlen : P.length = n + nd := by rw [hP, List.length_map]; exact q1
 have hnd : ((P.drop n).flatten).Nodup := hp.nodup_iff.2 (usedN_nd 0 n)
 have hmem : ∀ u : Nat, u < n → ∃ q, (u : Int) ∈ P.getD (n + q) [] := fun u hu => mem_flat.1 (hp.mem_iff.2 (usedN_mem.2 ⟨by omega, by omega⟩))
 have hfar : ∀ q : Nat, nd ≤ q → P.getD (n + q) [] = [] := fun q hq => getD_far (by omega)
 have hto : ∀ u q : Nat, (u : Int) ∈ P.getD (n + q) [] → toG P n nd u = (q : Int) := fun u q h => by
  have hq : q < nd := by
   apply Classical.byContradiction
   intro hc
   rw [hfar q (by omega)] at h
   cases h
  have := toG_one (P := P) (n := n) (m := 0) (u := u) (g := nd) (q := q) hq (by rw [Nat.add_zero]; exact h) (fun q' _ h' => by rw [Nat.add_zero] at h'; exact flat_one hnd h' h)
  rw [Nat.zero_add, Nat.zero_add] at this
  exact this
 have hf := q6 (fun a b => @decide (befA n P t.cross a b) (Classical.propDecidable _)) (fun a b _ _ => by rw [@decide_eq_true_eq _ (Classical.propDecidable _)])
 cases hb : farB ((List.range n).map (toG P n nd)) with
 | true =>
   rw [hb, if_pos rfl] at hf
   rw [hf] at he
   exact absurd he (by decide)
 | false =>
   rw [hb, if_neg (by decide)] at hf
   have hsn : (ofE l).1.to_ = (List.range n).map (toG P n nd) := by rw [hf]
   have hsf : (ofE l).1.first = firN n (fun a b => @decide (befA n P t.cross a b) (Classical.propDecidable _)) n := by rw [hf]
   have hgd : ∀ u : Nat, u < n → (ofE l).1.to_.getD u 0 = toG P n nd u := fun u hu => by
    rw [hsn, List.getD_eq_getElem?_getD, List.getElem?_map, List.getElem?_range hu]
    rfl
   refine ⟨n, nd, P, ⟨by show (ofE l).1.to_.length = n; rw [hsn]; simp, by omega, hn, h0, hk, hlen, by have := (all_zero h0).1; omega, by rw [hP, ht], fun u q hu => ?_, fun q x hx => q3 (n + q) (by omega) x hx, flat_nd hnd, fun u hu => ?_, fun q a b hab => ?_, fun c hcr e => ?_, _, hsf, fun a b _ _ => ?_⟩, by rw [hsn]; exact hb⟩
   · rw [hgd u hu]
     constructor
     · intro h
       obtain ⟨q', hq'⟩ := hmem u hu
       have := hto u q' hq'
       have e : q' = q := by omega
       rw [← e]
       exact hq'
     · exact hto u q
   · obtain ⟨q, hq⟩ := hmem u hu
     refine ⟨q, ?_, by rw [hgd u hu]; exact hto u q hq⟩
     apply Classical.byContradiction
     intro hc
     rw [hfar q (by omega)] at hq
     cases hq
   · obtain ⟨ma, mb⟩ := pr_mem hab
     have ra := q3 (n + q) (by omega) a ma
     have rb := q3 (n + q) (by omega) b mb
     rw [hsf, mem_firN]
     refine ⟨a.toNat, b.toNat, by omega, by omega, ?_, Prod.ext (by simp only; omega) (by simp only; omega)⟩
     rw [@decide_eq_true_eq _ (Classical.propDecidable _), show ((a.toNat : Nat) : Int) = a by omega, show ((b.toNat : Nat) : Int) = b by omega]
     exact Or.inl ⟨n + q, by omega, hab⟩
   · rw [← ht] at hcr
     obtain ⟨x1, x2, x3, x4, x5, x6, ⟨a, ea⟩, b, eb⟩ := hr.cx c hcr
     unfold hdP at e
     rw [ea, eb] at e
     have e : a = b := e
     subst e
     have g1 : a ∈ P.getD (n + (c.1.toNat - n)) [] := by rw [show n + (c.1.toNat - n) = c.1.toNat by omega, ea]; exact List.mem_cons_self
     have g2 : a ∈ P.getD (n + (c.2.toNat - n)) [] := by rw [show n + (c.2.toNat - n) = c.2.toNat by omega, eb]; exact List.mem_cons_self
     have := flat_one hnd g1 g2
     have hne := ce_cross hc n 1 l.length (Nat.le_refl _) c (by rw [← ht]; exact hcr)
     exact hne (by omega)
   · rw [@decide_eq_true_eq _ (Classical.propDecidable _), ← ht]
theorem tk_held {l : List Stc} {s : Sft} {n nd : Nat} {P : List (List Int)} (h : TkS l s n nd P) (hp : (plndE s).2 = 0) (q : Nat) : heldT s (plndE s).1 (q : Int) = P.getD (n + q) [] := by
 obtain ⟨hs, hF, -, ho, hl⟩ := plan_ok hp
 have hM := (may_iff hs _).1 (ex_may ho)
 rw [← hl] at hM
 refine ahead_eq (heldT_nd hF _) (h.nd_ q) (fun x => ?_) (fun k m a b hkm ha hb => ?_)
 · rw [heldT_mem hF]
   constructor
   · rintro ⟨i, hi, rfl, hto⟩
     exact (h.one i q (by rw [← h.sn]; exact hi)).1 hto
   · intro hx
     have hr := h.rng q x hx
     refine ⟨x.toNat, by rw [h.sn]; omega, by omega, (h.one x.toNat q (by omega)).2 (by rw [show ((x.toNat : Nat) : Int) = x by omega]; exact hx)⟩
 · have ma := List.mem_of_getElem? ha
   have mb := List.mem_of_getElem? hb
   have ra := h.rng q a ma
   have rb := h.rng q b mb
   have hab := h.ord q a b ⟨k, m, hkm, ha, hb⟩
   have ta := (h.one a.toNat q (by omega)).2 (by rw [show ((a.toNat : Nat) : Int) = a by omega]; exact ma)
   have tb := (h.one b.toNat q (by omega)).2 (by rw [show ((b.toNat : Nat) : Int) = b by omega]; exact mb)
   have := tr_ahead hs hF hM hab (by show s.to_.getD a.toNat 0 = s.to_.getD b.toNat 0; rw [ta, tb])
   rw [show (a, b).2.toNat = b.toNat from rfl, tb] at this
   exact this
theorem bef_ne {l : List Stc} {s : Sft} {n nd : Nat} {P : List (List Int)} (h : TkS l s n nd P) {a b : Int} (hb : befA n P (rowRun 1 l (startP n) l.length).cross a b) : a ≠ b := by
 rcases hb with ⟨j, hj, k, m, hkm, ha, hb⟩ | ⟨c, hc, ha, hb⟩
 · intro e
   subst e
   have hn := h.nd_ (j - n)
   rw [show n + (j - n) = j by omega] at hn
   obtain ⟨ga, ea⟩ := List.getElem?_eq_some_iff.1 ha
   obtain ⟨gb, eb⟩ := List.getElem?_eq_some_iff.1 hb
   exact List.pairwise_iff_getElem.1 hn k m ga gb hkm (ea.trans eb.symm)
 · rw [← ha, ← hb]
   exact h.crn c hc
theorem tk_valid {l : List Stc} {s : Sft} {n nd : Nat} {P : List (List Int)} (h : TkS l s n nd P) (hf : farB s.to_ = false) : sftE s = 0 := by
 have hsn := h.sn
 have hfew := h.few
 have hto : ∀ i, i < n → 0 ≤ s.to_.getD i 0 ∧ max (s.to_.getD i 0 - (i : Int)) ((i : Int) - s.to_.getD i 0) ≤ 8 := fun i hi => by
  obtain ⟨q, -, hq⟩ := h.has i hi
  unfold farB at hf
  have h1 := List.any_eq_false.1 hf i (List.mem_range.2 (by show i < s.to_.length; have : s.to_.length = n := hsn; omega))
  simp only [decide_eq_true_eq] at h1
  omega
 obtain ⟨f, hfi, hfb⟩ := h.frst
 have hup : s.first.Pairwise ltQ := by rw [hfi]; exact firN_up n f n
 unfold sftE
 rw [if_neg (by omega), if_neg ?_, if_neg ?_]
 · intro hb
   obtain ⟨i, hi, hb⟩ := List.any_eq_true.1 hb
   have hi := List.mem_range.1 hi
   have hpi : s.first[i]? = some (s.first.getD i (0, 0)) := by rw [List.getD_eq_getElem?_getD, List.getElem?_eq_getElem hi]; rfl
   have hm := List.mem_of_getElem? hpi
   obtain ⟨p, hp⟩ : ∃ p, p = s.first.getD i (0, 0) := ⟨_, rfl⟩
   rw [← hp] at hb hm hpi
   rw [hfi, mem_firN] at hm
   obtain ⟨a, b, ha, hbn, hfab, e⟩ := hm
   have hne := bef_ne h ((hfb a b ha hbn).1 hfab)
   unfold badF at hb
   rw [e] at hb
   simp only [Bool.or_eq_true, decide_eq_true_eq, Bool.and_eq_true, Bool.not_eq_true'] at hb
   rcases hb with ((hb | hb) | hb) | ⟨hb0, hb⟩
   · omega
   · have : s.to_.length = n := hsn
     omega
   · exact hne hb
   · obtain ⟨gi, ei⟩ := List.getElem?_eq_some_iff.1 hpi
     have hlt := List.pairwise_iff_getElem.1 hup (i - 1) i (by omega) gi (by omega)
     rw [ei, e] at hlt
     have hg : s.first.getD (i - 1) (0, 0) = s.first[i - 1] := by rw [List.getD_eq_getElem?_getD, List.getElem?_eq_getElem (by omega)]; rfl
     rw [hg] at hb
     unfold ltP at hb
     rw [Bool.or_eq_false_iff, Bool.and_eq_false_iff, decide_eq_false_iff_not, decide_eq_false_iff_not, decide_eq_false_iff_not] at hb
     unfold ltQ at hlt
     omega
 · intro hb
   obtain ⟨i, hi, hb⟩ := List.any_eq_true.1 hb
   have hi := List.mem_range.1 hi
   have := hto i (by omega)
   unfold badT at hb
   simp only [Bool.or_eq_true, decide_eq_true_eq] at hb
   omega
theorem plnd_errs {s : Sft} (h0 : sftE s = 0) : (plndE s).2 = 0 ∨ (plndE s).2 = 6 ∨ (plndE s).2 = 4 := by
 have ho : (ordE s).2 = 0 ∨ (ordE s).2 = 6 := by
  by_cases h : (ordE s).2 = 0
  · exact Or.inl h
  · exact Or.inr (ex_none h0 h).1
 unfold plndE
 split
 · rcases ho with h | h
   · exact Or.inl h
   · exact Or.inr (Or.inl h)
 · split
   · exact Or.inr (Or.inr rfl)
   · rcases ho with h | h
     · exact Or.inl h
     · exact Or.inr (Or.inl h)
theorem tk_chart {l : List Stc} {s : Sft} {n nd : Nat} {P : List (List Int)} (h : TkS l s n nd P) : chartE (n : Int) [(false, l)] = 0 := by
 have hfew := h.few
 unfold chartE
 rw [if_neg (by simp), if_neg (by omega)]
 have hr : rowE (n : Int) l = 0 := by
  unfold rowE
  rw [if_neg (by rw [h.all]; simp), if_neg ?_]
  have : usesE l = sumU l := by unfold usesE; rw [if_pos h.all]
  rw [this, h.uses]
  simp
 show (if rowE (n : Int) l = 0 then errR (rowA (n : Int) l) [] else rowE (n : Int) l) = 0
 rw [if_pos hr]
 rfl
theorem plan_go {s : Sft} (hp : (plndE s).2 = 0) {b : BedS} (hb : MSt b 0 (frT s 0) (fun _ => []) b) : ∃ t, Go1 b (plnI s (plndE s).1) t ∧ MSt b 0 (heldT s (plndE s).1) (fun _ => []) t := by
 obtain ⟨hs, hF, hst, -, -⟩ := plan_ok hp
 obtain ⟨t, h1, h2⟩ := back_run hs hb hst hF _ (Nat.le_refl _)
 obtain ⟨t', h3, h4⟩ := turn_run h2 (o := 0) ⟨by decide, by decide⟩
 refine ⟨t', h1.app h3, h4.ext (fun u => by rw [List.take_length]) (fun u => ?_)⟩
 rw [List.take_length]
 unfold bkO
 rw [if_neg ?_]
 rintro ⟨q1, q2, q3, q4⟩
 obtain ⟨i, rfl⟩ : ∃ i : Nat, u = (i : Int) := ⟨u.toNat, by omega⟩
 rw [Int.toNat_natCast] at q3
 exact q4 ((hF.mem i (by omega)).2 q3)
theorem doI_feeds {s : BedS} {i : Ins} (ho : i.op = 7 ∨ i.op = 8) (hz : (doI s i).2 = 0) : (doI s i).1.feeds = s.feeds := by
 unfold doI at hz ⊢
 rcases ho with e | e
 · rw [if_neg (by rw [e]; decide), if_neg (by rw [e]; decide), if_neg (by rw [e]; decide), if_neg (by rw [e]; decide), if_pos e] at hz ⊢
   cases ha : acrossS (takeS s i.bed i.at_) i (heldAt s.hooks i.bed i.at_) with
   | none => rw [ha] at hz; exact absurd hz (by decide)
   | some u =>
     show u.feeds = s.feeds
     unfold acrossS at ha
     split at ha
     · cases ha
     · rw [lay_same ha]; rfl
 · rw [if_neg (by rw [e]; decide), if_neg (by rw [e]; decide), if_pos e]
theorem runI_feeds : ∀ (l : List Ins) (s : BedS) (k : Nat), (∀ i ∈ l, i.op = 7 ∨ i.op = 8) → (runI s k l).2.2 = 0 → (runI s k l).1.feeds = s.feeds
 | [], _, _, _, _ => rfl
 | i :: l, s, k, h, hz => by
   have e : runI s k (i :: l) = if i.err ≠ 0 then (bed0, (k : Int), i.err) else if (doI s i).2 ≠ 0 then (bed0, (k : Int), (doI s i).2) else runI (doI s i).1 (k + 1) l := rfl
   rw [e] at hz ⊢
   by_cases h1 : i.err ≠ 0
   · rw [if_pos h1] at hz; exact absurd hz h1
   · rw [if_neg h1] at hz ⊢
     by_cases h2 : (doI s i).2 ≠ 0
     · rw [if_pos h2] at hz; exact absurd hz h2
     · rw [if_neg h2] at hz ⊢
       rw [runI_feeds l _ _ (fun j hj => h j (List.mem_cons_of_mem _ hj)) hz]
       exact doI_feeds (h i List.mem_cons_self) (by simpa using h2)
theorem turn_op (a b : Int) : ∀ i ∈ turnI a b, i.op = 7 ∨ i.op = 8 := fun i hi => by
 unfold turnI at hi
 split at hi
 · cases hi
 · rw [List.mem_singleton.1 hi]; exact Or.inr rfl
theorem runP_op {s : Sft} {l : List Int} (h : okL s l) : ∀ k, k ≤ l.length → ∀ i ∈ (runP s l k).2, i.op = 7 ∨ i.op = 8
 | 0, _ => fun i hi => by
   rw [runP_zero] at hi
   unfold frontP at hi
   obtain ⟨j, -, rfl⟩ := List.mem_map.1 hi
   exact Or.inl rfl
 | k + 1, hk => fun i hi => by
   obtain ⟨j, hj, -⟩ := h l[k] (List.getElem_mem (by omega))
   rw [runP_next (i := j) (by rw [List.getElem?_eq_getElem (by omega), hj])] at hi
   rcases List.mem_append.1 hi with hi | hi
   · exact runP_op h k (by omega) i hi
   · rcases List.mem_append.1 hi with hi | hi
     · exact turn_op _ _ i hi
     · rw [List.mem_singleton.1 hi]
       exact Or.inl rfl
theorem pln_op {s : Sft} {l : List Int} (h : okL s l) : ∀ i ∈ plnI s l, i.op = 7 ∨ i.op = 8 := fun i hi => by
 unfold plnI at hi
 rcases List.mem_append.1 hi with hi | hi
 · exact runP_op h _ (Nat.le_refl _) i hi
 · exact turn_op _ _ i hi
theorem Go1.feeds {s t : BedS} {l : List Ins} (h : Go1 s l t) (ho : ∀ i ∈ l, i.op = 7 ∨ i.op = 8) : t.feeds = s.feeds := by
 have e := h.end_
 have := runI_feeds l s 0 ho (by rw [e])
 rw [e] at this
 exact this
theorem feed_none {l : List Fd} {c d : Int} (h : ∀ f ∈ l, f.car = c) (hne : c ≠ d) : feedAt l d = none := List.find?_eq_none.2 fun f hf => by
 have := h f hf
 simp only [decide_eq_true_eq]
 omega
def in2T : Ins := ⟨1, false, 0, 0, 0, 2, 0⟩
def kn2T (k : Nat) : Ins := ⟨3, true, 0, (k : Int), 0, 2, 0⟩
theorem in2T_good : in2T.good ∧ in2T.wf := ⟨by decide, by unfold Ins.wf; decide⟩
theorem kn2T_good {k : Nat} (hk : k ≤ 100) : (kn2T k).good ∧ (kn2T k).wf :=
 ⟨Or.inr (Or.inl ⟨Or.inl rfl, rfl, rfl, ⟨by show (1 : Int) ≤ 2; decide, by show (2 : Int) ≤ 6; decide⟩, by show (0 : Int) ≤ 1; decide, by show -100 ≤ (k : Int); omega, by show (k : Int) ≤ 100; omega⟩), by show (0 : Int) ≤ 3; decide, by show (3 : Int) ≤ 255; decide, by show (0 : Int) ≤ 0; decide, by show (0 : Int) ≤ 255; decide⟩
structure KnS (b : BedS) (F : Int → List Int) (k : Nat) (t : BedS) : Prop where
 good : Good t
 rack : t.rack = 0
 made : t.made = b.made ++ (List.range k).map fun j : Nat => (⟨F (j : Int), 0, (j : Int), 2⟩ : Mk)
 feed : ∃ f, feedAt t.feeds 2 = some f ∧ (f.fresh = true ∨ f.place = 2 * (k : Int) - 1)
 front : ∀ u, (k : Int) ≤ u → heldAt t.hooks 0 u = F u
theorem KnS.start {b : BedS} {F K : Int → List Int} {t : BedS} (h : MSt b 0 F K t) (hf : feedAt t.feeds 2 = none) : ∃ t', Go1 t [in2T] t' ∧ KnS b F 0 t' := by
 have hd : doI t in2T = ({ t with feeds := setF (keyF 2) [⟨2, true, 0⟩] t.feeds }, 0) := by
  unfold doI
  rw [if_pos (show in2T.op = 1 from rfl)]
  show (if (feedAt t.feeds 2).isSome then _ else _) = _
  rw [hf]
  rfl
 have hg := (doI_good h.good in2T_good.2 in2T_good.1 (by rw [hd])).1
 rw [hd] at hg
 exact ⟨_, Go1.one (err_good in2T_good.1) hd, hg, h.rack, by show t.made = _; rw [h.made]; simp, ⟨_, feed_self t.feeds ⟨2, true, 0⟩, Or.inl rfl⟩, fun u _ => h.front u⟩
theorem KnS.knit {b : BedS} {F : Int → List Int} {k : Nat} {t : BedS} (h : KnS b F k t) (hk : k ≤ 100) (hm : b.made.length ≤ 3000) : ∃ t', Go1 t [kn2T k] t' ∧ KnS b F (k + 1) t' := by
 obtain ⟨f, hf, hfp⟩ := h.feed
 obtain ⟨g1, g2⟩ := kn2T_good hk
 have hcol : colI t.rack (kn2T k).bed (kn2T k).at_ = (k : Int) := by
  show (k : Int) + 0 * t.rack = (k : Int)
  omega
 have hpass : passS t (kn2T k) = some { t with feeds := setF (keyF 2) [⟨2, false, 2 * (k : Int) + 1⟩] t.feeds } := by
  unfold passS
  rw [show feedAt t.feeds (kn2T k).car = some f from hf]
  have hw : wayI (kn2T k) = 1 := rfl
  simp only [hcol, hw]
  rw [if_neg ?_]
  · rfl
  · rintro ⟨h1, h2⟩
    rcases hfp with h3 | h3
    · rw [h3] at h1; cases h1
    · rw [h3] at h2; omega
 have hml : t.made.length = b.made.length + k := by rw [h.made, List.length_append, List.length_map, List.length_range]
 have hd : doI t (kn2T k) = ({ rack := t.rack, hooks := putAt (putAt t.hooks 0 (k : Int) []) 0 (k : Int) [(t.made.length : Int)], feeds := setF (keyF 2) [⟨2, false, 2 * (k : Int) + 1⟩] t.feeds, made := t.made ++ [⟨heldAt t.hooks 0 (k : Int), 0, (k : Int), 2⟩] }, 0) := by
  unfold doI
  rw [if_neg (by show ¬ (3 : Int) = 1; decide), if_neg (by show ¬ (3 : Int) = 2; decide), if_neg (by show ¬ (3 : Int) = 8; decide), if_neg (by show ¬ (3 : Int) = 9; decide), if_neg (by show ¬ (3 : Int) = 7; decide)]
  unfold yarnS
  rw [hpass]
  show (if (3 : Int) = 5 then _ else if (3 : Int) = 4 then _ else if (3 : Int) = 6 then _ else _) = _
  rw [if_neg (by decide), if_neg (by decide), if_neg (by decide)]
  unfold knitS
  show (if t.made.length = 4000 then _ else _) = _
  rw [if_neg (by omega)]
  rfl
 have hg := (doI_good h.good g2 g1 (by rw [hd])).1
 rw [hd] at hg
 have ht0 := h.good.take (b := 0) ⟨by decide, by decide⟩ (show needleP (k : Int) by unfold needleP; omega)
 refine ⟨_, Go1.one (err_good g1) hd, hg, h.rack, ?_, ⟨_, feed_self t.feeds ⟨2, false, 2 * (k : Int) + 1⟩, Or.inr (by show 2 * (k : Int) + 1 = _; push_cast; omega)⟩, fun u hu => ?_⟩
 · show t.made ++ [_] = _
   rw [h.made, h.front _ (Int.le_refl _), List.range_succ, List.map_append, List.append_assoc]
   rfl
 · show heldAt (putAt (putAt t.hooks 0 (k : Int) []) 0 (k : Int) [(t.made.length : Int)]) 0 u = _
   rw [tp_at (l := putAt t.hooks 0 (k : Int) []) ht0.rh, if_neg (by omega), tp_at h.good.rh, if_neg (by omega), h.front u (by omega)]
theorem kn_run {b : BedS} {F : Int → List Int} {t : BedS} (h : KnS b F 0 t) (hm : b.made.length ≤ 3000) : ∀ k, k ≤ 101 → ∃ t', Go1 t ((List.range k).map kn2T) t' ∧ KnS b F k t'
 | 0, _ => ⟨t, Go1.nil t, h⟩
 | k + 1, hk => by
   obtain ⟨t1, h1, h2⟩ := kn_run h hm k (by omega)
   obtain ⟨t2, h3, h4⟩ := h2.knit (by omega) hm
   refine ⟨t2, ?_, h4⟩
   rw [List.range_succ, List.map_append]
   exact h1.app h3
def tkI (s : Sft) (nd : Nat) : List Ins := (plE s).1 ++ [in2T] ++ (List.range nd).map kn2T
theorem tk_run {l : List Stc} {s : Sft} {n nd : Nat} {P : List (List Int)} (h : TkS l s n nd P) (hp : (plndE s).2 = 0) (hnd : nd ≤ 101) {b : BedS} (hb : KSt n b) :
 ∃ t, runI b 0 (tkI s nd) = (t, ((tkI s nd).length : Int), 0) ∧ Good t ∧ t.made.length = n + nd ∧ ∀ q, q < nd → ∃ m, t.made[n + q]? = some m ∧ m.parents = P.getD (n + q) [] := by
 have hb' : KSt s.n b := by rw [h.sn]; exact hb
 obtain ⟨t0, h1, h2⟩ := plan_go hp hb'.mst
 have hF := (plan_ok hp).2.1
 have hfe : feedAt t0.feeds 2 = none := by
  rw [h1.feeds (pln_op hF.ok)]
  exact feed_none hb.cars (by decide)
 have ep : plE s = (plnI s (plndE s).1, 0) := by unfold plE; rw [if_neg (by simpa using hp)]
 obtain ⟨t1, h3, h4⟩ := KnS.start h2 hfe
 have hbm := hb.made
 have hfew := h.few
 obtain ⟨t2, h5, h6⟩ := kn_run h4 (by omega) nd hnd
 refine ⟨t2, ?_, h6.good, ?_, fun q hq => ?_⟩
 · have := ((h1.app h3).app h5).end_
   unfold tkI
   rw [ep]
   exact this
 · rw [h6.made, List.length_append, List.length_map, List.length_range, hbm]
 · refine ⟨⟨heldT s (plndE s).1 (q : Int), 0, (q : Int), 2⟩, ?_, tk_held h hp q⟩
   rw [h6.made, List.getElem?_append_right (by omega), List.getElem?_map, hbm, show n + q - n = q by omega, List.getElem?_range hq]
   rfl
end Go.Proofs.YtflpikickbellaaGreat

