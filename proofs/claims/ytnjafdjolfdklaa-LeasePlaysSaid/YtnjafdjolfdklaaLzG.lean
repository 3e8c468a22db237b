/- Who holds: how he lies in memory; who begins. No statement of the seat is proved here. -/
import Derived.Test.YtnjafdjolfdklaaLzE
import Derived.Test.YtnjafdjolfdklaaLzF
import Derived.Test.YtnjafdjolfdklaaMoves3
import Derived.Maps.OwnSet
import Derived.Maps.OwnOps
namespace Go.Proofs.Ytnjafdjolfdklaa
set_option linter.unusedVariables false
set_option linter.unusedSimpArgs false
set_option linter.unusedSectionVars false
open Go.RowKit Go.Maps
variable [Floor]
structure HO where
  r : Int
  n : Int
  N : Nat
  len : Int
  bound : Int
  T : List (Option Int)
structure HO.Ok (H : HO) : Prop where
  len : H.T.length = H.N
  n1 : 1 ≤ H.N
  n7 : H.N ≤ 7
  l1 : 1 ≤ H.len
  l2 : H.len ≤ 4294967296
  b1 : 0 ≤ H.bound
  b2 : H.bound ≤ 4294967296
  ts : ∀ (i : Nat) (t : Int), H.T[i]? = some (some t) → 0 ≤ t ∧ t ≤ 17592186044416
/-- the map has just these -/
structure MapIs (D : DataW Unit) (T : List (Option Int)) : Prop where
  hs : ∀ x : Int, Maps.has D (.int .i64 x) = true ↔ ∃ (i : Nat) (t : Int), x = (i : Int) ∧ T[i]? = some (some t)
  at_ : ∀ (i : Nat) (t : Int), T[i]? = some (some t) → ∀ z, D.atKey (.int .i64 (i : Int)) z = .lit (.int .i64 t)
  size : Maps.size D = (T.filterMap id).length
def hoC (H : HO) (bm : Nat) : Array Value := #[.int .u64 H.r, .int .i64 H.n, .int .i64 H.N, .int .i64 H.len, .int .i64 H.bound, .map (some bm)]
structure IsHo (w : World) (g : Nat) (H : HO) : Prop where
  ok : H.Ok
  fl : Floor.b ≤ g
  lies : ∃ bm D, w.heap[g]? = some (.cells (hoC H bm) 74 (0, 0)) ∧ w.ownsMap Try.prog 3 (plainElem Try.prog 2) bm (Maps.size D) D ∧ MapIs D H.T ∧ Floor.b ≤ bm
theorem ownsMap_tight {w : World} {b n : Nat} {D : DataW Unit} (h : w.ownsMap Try.prog 3 (plainElem Try.prog 2) b n D) : w.ownsMap Try.prog 3 (plainElem Try.prog 2) b (Maps.size D) D := by
  obtain ⟨es, clock, hb, F, hs, rfl⟩ := h
  refine ⟨es, clock, hb, F, ?_, rfl⟩
  show es.size ≤ ((es.toList.map _).foldr DataW.insert []).length
  rw [length_sorted]; simp
theorem length_fm (T : List (Option Int)) : (T.filterMap id).length ≤ T.length := List.length_filterMap_le _ _
theorem fm_none (N : Nat) : ((List.replicate N (none : Option Int)).filterMap id) = [] := by
  induction N with
  | zero => rfl
  | succ n ih => rw [List.replicate_succ, List.filterMap_cons]; simp
theorem rep_none (N i : Nat) (t : Int) : ¬ (List.replicate N (none : Option Int))[i]? = some (some t) := fun h => by
  rw [List.getElem?_replicate] at h
  split at h <;> cases h
theorem mapIs_start (N : Nat) : MapIs (.map []) (List.replicate N none) :=
  ⟨fun x => ⟨fun h => (by cases h), fun ⟨i, t, _, h⟩ => absurd h (rep_none N i t)⟩, fun i t h => absurd h (rep_none N i t), by rw [fm_none]; rfl⟩
theorem fm_set : ∀ (T : List (Option Int)) (i : Nat) (t : Int), i < T.length → ((T.set i (some t)).filterMap id).length = if (T.getD i none).isSome = true then (T.filterMap id).length else (T.filterMap id).length + 1
  | [], i, t, h => by cases h
  | o :: T, 0, t, h => by
    cases o <;> simp
  | o :: T, i + 1, t, h => by
    have ih := fm_set T i t (by simpa using h)
    rw [List.set_cons_succ, List.getD_cons_succ]
    cases o with
    | none => simpa [List.filterMap_cons] using ih
    | some a =>
      simp only [List.filterMap_cons, id, List.length_cons]
      rw [ih]
      split <;> rfl
theorem MapIs.put {D : DataW Unit} {T : List (Option Int)} (h : MapIs D T) (hT : Tidy D) {i : Nat} (hi : i < T.length) (t : Int) (hw : (Lit.int .i64 (i : Int)).wf = true) : MapIs (D.put (.int .i64 (i : Int)) (.lit (.int .i64 t))) (T.set i (some t)) := by
  have hk : WideAt.IsKeyLit (.int .i64 (i : Int)) := trivial
  refine ⟨fun x => ?_, fun j u hj z => ?_, ?_⟩
  · by_cases hx : x = (i : Int)
    · subst hx
      rw [has_put_same hT.isMap hk]
      exact ⟨fun _ => ⟨i, t, rfl, by simp [hi]⟩, fun _ => rfl⟩
    · rw [has_put_other (fun e => hx (by injection e)), h.hs x]
      constructor
      · rintro ⟨j, u, rfl, hj⟩
        exact ⟨j, u, rfl, by rw [List.getElem?_set_ne (fun e => hx (by rw [e]))]; exact hj⟩
      · rintro ⟨j, u, rfl, hj⟩
        exact ⟨j, u, rfl, by rw [List.getElem?_set_ne (fun e => hx (by rw [e]))] at hj; exact hj⟩
  · by_cases hx : j = i
    · subst hx
      rw [atKey_put_same hT.isMap hk]
      rw [List.getElem?_set_self hi] at hj
      cases hj; rfl
    · rw [atKey_put_other (fun e => hx (by injection e with _ e; omega))]
      rw [List.getElem?_set_ne (fun e => hx e.symm)] at hj
      exact h.at_ j u hj z
  · rw [size_put hT, fm_set T i t hi, h.size]
    have : (Maps.has D (.int .i64 (i : Int)) = true) ↔ ((T.getD i none).isSome = true) := by
      rw [h.hs]
      constructor
      · rintro ⟨j, u, e, hj⟩
        obtain rfl : i = j := by omega
        simp [List.getD, hj]
      · intro hs
        cases ho : T.getD i none with
        | none => rw [ho] at hs; cases hs
        | some u =>
          refine ⟨i, u, rfl, ?_⟩
          rw [List.getD_eq_getElem?_getD, List.getElem?_eq_getElem hi] at ho
          rw [List.getElem?_eq_getElem hi]
          simpa using ho
    by_cases hh : Maps.has D (.int .i64 (i : Int)) = true
    · rw [if_pos hh, if_pos (this.1 hh)]
    · rw [if_neg hh, if_neg (fun e => hh (this.2 e))]
theorem IsHo.keep {w w' : World} {g : Nat} {H : HO} {M : Nat → Obj → Prop} (h : IsHo w g H) (hk : Keep M w w') (h1 : ∀ cs fr, ¬ M g (.cells cs 74 fr)) (h2 : ∀ k es c, ¬ M k (.map es c)) : IsHo w' g H := by
  obtain ⟨bm, D, hb, ⟨es, clock, hm, F, hs, hD⟩, hi, hf⟩ := h.lies
  exact ⟨h.ok, h.fl, bm, D, hk.block _ _ hb (h1 _ _), ⟨es, clock, hk.block _ _ hm (h2 _ _ _), F, hs, hD⟩, hi, hf⟩
theorem take_fm {T : List (Option Int)} : ∀ n, n ≤ T.length → ((List.range n).filter fun i => (T.getD i none).isSome).map (fun i => (T.getD i none).getD 0) = (T.take n).filterMap id
  | 0, _ => by simp
  | n + 1, h => by
    have ih := take_fm (T := T) n (by omega)
    rw [List.range_succ, List.filter_append, List.map_append, ih, List.take_succ_eq_append_getElem (by omega), List.filterMap_append]
    congr 1
    have e : T[n]? = some T[n] := List.getElem?_eq_getElem (by omega)
    cases ho : T[n] with
    | none => rw [ho] at e; simp [List.getD, e, List.filter]
    | some a => rw [ho] at e; simp [List.getD, e, List.filter]
/-- the values that come are the ticks -/
theorem vals_perm {D : DataW Unit} {T : List (Option Int)} (h : MapIs D T) {ss : List Int} (hv : ValsOf D ss) : ss.Perm (T.filterMap id) := by
  obtain ⟨ps, hpn, hpm, hat, rfl⟩ := hv
  obtain ⟨ks, hksd⟩ : ∃ ks : List Int, ks = ((List.range T.length).filter fun i => (T.getD i none).isSome).map fun (i : Nat) => (i : Int) := ⟨_, rfl⟩
  have hmem : ∀ x, x ∈ ks ↔ Maps.has D (.int .i64 x) = true := by
    intro x
    rw [h.hs, hksd]
    simp only [List.mem_map, List.mem_filter, List.mem_range]
    constructor
    · rintro ⟨i, ⟨hi, hs⟩, rfl⟩
      cases ho : T.getD i none with
      | none => rw [ho] at hs; cases hs
      | some u =>
        refine ⟨i, u, rfl, ?_⟩
        rw [List.getD_eq_getElem?_getD, List.getElem?_eq_getElem hi] at ho
        rw [List.getElem?_eq_getElem hi]
        simpa using ho
    · rintro ⟨i, u, rfl, hi⟩
      exact ⟨i, ⟨(List.getElem?_eq_some_iff.1 hi).1, by simp [List.getD, hi]⟩, rfl⟩
  have hnd : ks.Nodup := by
    rw [hksd]
    exact List.Pairwise.map (R := (· ≠ ·)) _ (fun a b hab e => hab (by omega)) (List.Pairwise.filter _ List.nodup_range)
  have hpp : (ps.map (·.1)).Perm ks := (List.perm_ext_iff_of_nodup hpn hnd).2 fun x => by rw [hpm, hmem]
  have e1 : ps.map (·.2) = (ps.map (·.1)).map fun x => (T.getD x.toNat none).getD 0 := by
    rw [List.map_map]
    refine List.map_congr_left fun p hp' => ?_
    have hin : p.1 ∈ ks := hpp.mem_iff.1 (List.mem_map.2 ⟨p, hp', rfl⟩)
    obtain ⟨i, u, e, hu⟩ := (h.hs p.1).1 ((hmem p.1).1 hin)
    have h1 := hat p hp' .nil
    have h2 := h.at_ i u hu .nil
    rw [e, h2] at h1
    simp only [DataW.lit.injEq, Lit.int.injEq, true_and] at h1
    simp [e, List.getD, hu, h1]
  rw [e1]
  refine (hpp.map _).trans ?_
  have e2 : ks.map (fun x => (T.getD x.toNat none).getD 0) = T.filterMap id := by
    have := take_fm (T := T) T.length (Nat.le_refl _)
    rw [List.take_length] at this
    rw [← this]
    simp [hksd, List.map_map, Function.comp_def]
  rw [e2]
end Go.Proofs.Ytnjafdjolfdklaa
