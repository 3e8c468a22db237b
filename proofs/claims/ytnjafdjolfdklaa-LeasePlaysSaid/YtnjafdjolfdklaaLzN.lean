/- The plain law of who holds: the two ways to reckon how long are one. No statement of the seat is proved here. -/
import Derived.Test.YtnjafdjolfdklaaLzM
namespace Go.Proofs.Ytnjafdjolfdklaa
set_option linter.unusedVariables false
set_option linter.unusedSimpArgs false
set_option linter.unusedSectionVars false
variable [Floor]
/-- how many are t or more -/
def cge (s : List Int) (t : Int) : Nat := (s.filter fun u => decide (t ≤ u)).length
theorem cge_perm {s s' : List Int} (h : s.Perm s') (t : Int) : cge s t = cge s' t := (h.filter _).length_eq
theorem count_take {T : List (Option Int)} (t : Int) : ∀ n, n ≤ T.length → ((List.range n).filter fun j => geB (T.getD j none) t).length = cge ((T.take n).filterMap id) t
  | 0, _ => by simp [cge]
  | n + 1, h => by
    have ih := count_take (T := T) t n (by omega)
    have e : T[n]? = some T[n] := List.getElem?_eq_getElem (by omega)
    rw [List.range_succ, List.filter_append, List.length_append, ih, List.take_succ_eq_append_getElem (by omega), List.filterMap_append]
    unfold cge
    rw [List.filter_append, List.length_append]
    congr 1
    have eg : T.getD n none = T[n] := by rw [List.getD_eq_getElem?_getD, e]; rfl
    cases ho : T[n] with
    | none =>
      have hg : geB (T.getD n none) t = false := by rw [eg, ho]; rfl
      have e3 : List.filterMap id [(none : Option Int)] = [] := rfl
      rw [e3]
      simp only [List.filter_cons, hg, Bool.false_eq_true, if_false, List.filter_nil, List.length_nil]
    | some u =>
      have e3 : List.filterMap id [some u] = [u] := rfl
      rw [e3]
      have hgd : geB (T.getD n none) t = decide (t ≤ u) := by rw [eg, ho]; rfl
      cases hd : decide (t ≤ u) with
      | true =>
        have hg : geB (T.getD n none) t = true := hgd.trans hd
        simp only [List.filter_cons, hg, hd, if_true, List.filter_nil, List.length_cons, List.length_nil]
      | false =>
        have hg : geB (T.getD n none) t = false := hgd.trans hd
        simp only [List.filter_cons, hg, hd, Bool.false_eq_true, if_false, List.filter_nil, List.length_nil]
theorem votes_eq (T : List (Option Int)) (t : Int) : votesN (whoL T t T.length) T.length = cge (T.filterMap id) t := by
  have h := count_take (T := T) t T.length (Nat.le_refl _)
  rw [List.take_length] at h
  rw [← h]
  unfold votesN
  congr 1
  refine List.filter_congr fun a ha => ?_
  have hal := List.mem_range.1 ha
  rw [Bool.eq_iff_iff, List.any_eq_true]
  unfold whoL
  constructor
  · rintro ⟨x, hx, he⟩
    simp only [List.mem_map, List.mem_filter, List.mem_range] at hx
    obtain ⟨j, ⟨_, hg⟩, rfl⟩ := hx
    have e : j = a := by have h5 : (j : Int) = (a : Int) := by simpa using he
                         omega
    subst e
    exact hg
  · intro hg
    exact ⟨(a : Int), List.mem_map.2 ⟨a, List.mem_filter.2 ⟨List.mem_range.2 hal, hg⟩, rfl⟩, by simp⟩
theorem bestR_spec (T : List (Option Int)) (N : Nat) : ∀ i, (∀ b, bestR T N i = some b → (∃ j, j < i ∧ T.getD j none = some b) ∧ quoB T N b = true ∧ ∀ j t, j < i → T.getD j none = some t → quoB T N t = true → t ≤ b) ∧
    (bestR T N i = none → ∀ j t, j < i → T.getD j none = some t → ¬ quoB T N t = true)
  | 0 => ⟨fun b h => (by cases h), fun _ j t h => (by omega)⟩
  | i + 1 => by
    obtain ⟨ih1, ih2⟩ := bestR_spec T N i
    rw [bestR]
    cases ho : T.getD i none with
    | none =>
      refine ⟨fun b h => ?_, fun h j t hj ht => ?_⟩
      · obtain ⟨⟨j, hj, e⟩, h2, h3⟩ := ih1 b h
        refine ⟨⟨j, by omega, e⟩, h2, fun k t hk ht hq => ?_⟩
        by_cases hki : k = i
        · subst hki; rw [ho] at ht; cases ht
        · exact h3 k t (by omega) ht hq
      · by_cases hki : j = i
        · subst hki; rw [ho] at ht; cases ht
        · exact ih2 h j t (by omega) ht
    | some u =>
      simp only
      split
      · rename_i hc
        refine ⟨fun b h => ?_, fun h => by cases h⟩
        cases h
        refine ⟨⟨i, by omega, ho⟩, hc.1, fun k t hk ht hq => ?_⟩
        by_cases hki : k = i
        · subst hki; rw [ho] at ht; cases ht; exact Int.le_refl _
        · cases hb : bestR T N i with
          | none => exact absurd hq (ih2 hb k t (by omega) ht)
          | some b' => have := (ih1 b' hb).2.2 k t (by omega) ht hq; have := hc.2 b' hb; omega
      · rename_i hc
        refine ⟨fun b h => ?_, fun h j t hj ht hq => ?_⟩
        · obtain ⟨⟨j, hj, e⟩, h2, h3⟩ := ih1 b h
          refine ⟨⟨j, by omega, e⟩, h2, fun k t hk ht hq => ?_⟩
          by_cases hki : k = i
          · subst hki; rw [ho] at ht; cases ht
            have : ¬ ∀ b', bestR T N k = some b' → b' < u := fun hh => hc ⟨hq, hh⟩
            rw [h] at this
            rcases Int.lt_or_le b u with hlt | hle
            · exact absurd (fun b' e => by cases e; exact hlt) this
            · exact hle
          · exact h3 k t (by omega) ht hq
        · by_cases hki : j = i
          · subst hki; rw [ho] at ht; cases ht
            exact hc ⟨hq, fun b' e => by rw [h] at e; cases e⟩
          · exact ih2 h j t (by omega) ht hq
theorem sorted_le {s : List Int} (hs : s.Pairwise (fun a b => a ≤ b)) {i j : Nat} (hij : i ≤ j) (hj : j < s.length) : s[i]'(by omega) ≤ s[j] := by
  rcases Nat.lt_or_ge i j with h | h
  · exact List.pairwise_iff_getElem.1 hs i j (by omega) hj h
  · have : i = j := by omega
    subst this; exact Int.le_refl _
theorem cge_at {s : List Int} (hs : s.Pairwise (fun a b => a ≤ b)) {k : Nat} (hk : k < s.length) : s.length - k ≤ cge s s[k] := by
  have e : s = s.take k ++ s.drop k := (List.take_append_drop k s).symm
  have h2 : cge s s[k] = (List.filter (fun u => decide (s[k] ≤ u)) (s.take k)).length + (List.filter (fun u => decide (s[k] ≤ u)) (s.drop k)).length := by
    unfold cge
    rw [← List.length_append, ← List.filter_append, ← e]
  have h3 : List.filter (fun u => decide (s[k] ≤ u)) (s.drop k) = s.drop k := by
    refine List.filter_eq_self.2 fun u hu => ?_
    obtain ⟨j, hj, rfl⟩ := List.mem_iff_getElem.1 hu
    rw [List.getElem_drop]
    rw [List.length_drop] at hj
    exact decide_eq_true (sorted_le hs (by omega) (by omega))
  rw [h2, h3, List.length_drop]
  omega
theorem cge_over {s : List Int} (hs : s.Pairwise (fun a b => a ≤ b)) {k : Nat} (hk : k < s.length) {t : Int} (ht : s[k] < t) : cge s t < s.length - k := by
  have e : s = s.take (k + 1) ++ s.drop (k + 1) := (List.take_append_drop (k + 1) s).symm
  have h2 : cge s t = (List.filter (fun u => decide (t ≤ u)) (s.take (k + 1))).length + (List.filter (fun u => decide (t ≤ u)) (s.drop (k + 1))).length := by
    unfold cge
    rw [← List.length_append, ← List.filter_append, ← e]
  have h3 : List.filter (fun u => decide (t ≤ u)) (s.take (k + 1)) = [] := by
    refine List.filter_eq_nil_iff.2 fun u hu => ?_
    obtain ⟨j, hj, rfl⟩ := List.mem_iff_getElem.1 hu
    rw [List.length_take] at hj
    rw [List.getElem_take]
    have := sorted_le hs (i := j) (j := k) (by omega) hk
    simp; omega
  have h4 := List.length_filter_le (fun u => decide (t ≤ u)) (s.drop (k + 1))
  rw [List.length_drop] at h4
  rw [h2, h3, List.length_nil]
  omega
theorem sortedT_pw (T : List (Option Int)) : (sortedT T).Pairwise (fun a b => a ≤ b) := by
  have tr : ∀ a b c : Int, leI a b = true → leI b c = true → leI a c = true := fun a b c h1 h2 => by simp only [leI, decide_eq_true_eq] at *; exact Int.le_trans h1 h2
  have to : ∀ a b : Int, (leI a b || leI b a) = true := fun a b => by simp only [leI, Bool.or_eq_true, decide_eq_true_eq]; exact Int.le_total a b
  exact (List.pairwise_mergeSort tr to (T.filterMap id)).imp fun h => of_decide_eq_true h
theorem until_eq {H : HO} (h : H.Ok) : runtilW H = untilW H := by
  obtain ⟨r, n, N, len, bound, T⟩ := H
  have hTl : T.length = N := h.len
  subst hTl
  have hq : ∀ t, quoB T T.length t = decide (T.length / 2 + 1 ≤ cge (T.filterMap id) t) := fun t => by unfold quoB; rw [votes_eq]
  have hperm : (sortedT T).Perm (T.filterMap id) := List.mergeSort_perm _ _
  have hsl := length_sortedT T
  obtain ⟨s1, s2⟩ := bestR_spec T T.length T.length
  unfold runtilW untilW
  dsimp only
  have hmem : ∀ x, x ∈ T.filterMap id → ∃ j, j < T.length ∧ T.getD j none = some x := fun x hx => by
    obtain ⟨o, ho, e⟩ := List.mem_filterMap.1 hx
    simp only [id] at e
    subst e
    obtain ⟨j, hj⟩ := List.mem_iff_getElem?.1 ho
    exact ⟨j, (List.getElem?_eq_some_iff.1 hj).1, by simp [List.getD, hj]⟩
  by_cases hlt : (T.filterMap id).length < T.length / 2 + 1
  · rw [if_pos hlt]
    cases hb : bestR T T.length T.length with
    | none => rfl
    | some b =>
      have := (s1 b hb).2.1
      rw [hq] at this
      have h1 := of_decide_eq_true this
      have h2 : cge (T.filterMap id) b ≤ (T.filterMap id).length := List.length_filter_le _ _
      omega
  · rw [if_neg hlt]
    obtain ⟨L, hL⟩ : ∃ L, (T.filterMap id).length = L := ⟨_, rfl⟩
    rw [hL] at hlt hsl
    rw [hL]
    have hk : L - (T.length / 2 + 1) < (sortedT T).length := by omega
    have hx : (sortedT T).getD (L - (T.length / 2 + 1)) 0 = (sortedT T)[L - (T.length / 2 + 1)] := by rw [List.getD_eq_getElem?_getD, List.getElem?_eq_getElem hk]; rfl
    have c1 := cge_at (sortedT_pw T) hk
    have c2 := fun t => cge_over (sortedT_pw T) hk (t := t)
    have hxm : (sortedT T)[L - (T.length / 2 + 1)] ∈ T.filterMap id := hperm.mem_iff.1 (List.getElem_mem hk)
    rw [hx]
    generalize (sortedT T)[L - (T.length / 2 + 1)] = x at *
    rw [cge_perm hperm] at c1
    obtain ⟨j, hj, hjx⟩ := hmem x hxm
    have hqx : quoB T T.length x = true := by rw [hq]; exact decide_eq_true (by omega)
    cases hb : bestR T T.length T.length with
    | none => exact absurd hqx (s2 hb j x hj hjx)
    | some b =>
      have h1 := (s1 b hb).2.2 j x hj hjx hqx
      have h2 := (s1 b hb).2.1
      rw [hq] at h2
      have h3 := of_decide_eq_true h2
      have h4 : ¬ x < b := fun hlt' => by
        have := c2 b hlt'
        rw [cge_perm hperm] at this
        omega
      have : b = x := by omega
      rw [this]
end Go.Proofs.Ytnjafdjolfdklaa
