/- A region that leaves its order open, walked in one order: what only reads is taken as soon as it may come up, what acts comes up alone. What the readers lean on (S) need not hold behind an operation that waits for all others. No statement of the seat is proved here. -/
import Derived.Test.YtnjafdjolfdklaaBase
import Derived.OrdersHeld
namespace Go.Proofs.Ytnjafdjolfdklaa
set_option linter.unusedVariables false
set_option linter.unusedSimpArgs false
open Go.RowKit
section
variable {P : Program} {ops : Array Oper} {Q : Exit → Act → World → Prop} {S : World → Prop}
theorem any_mem {α : Type} {p : α → Bool} {a : Array α} (h : a.any p = true) : ∃ x, x ∈ a ∧ p x = true := by
  obtain ⟨i, hi, hp⟩ := Array.any_eq_true.1 h
  exact ⟨a[i], Array.getElem_mem hi, hp⟩
/-- does operation j wait for operation k? -/
def waits1 (ops : Array Oper) (j k : Nat) : Bool := ((ops[j]?).map fun o => o.after.any fun e => Region.binds .any e && e.on == k).getD false
def waitsD (ops : Array Oper) : Nat → Nat → Nat → Bool
  | 0, _, _ => false
  | d + 1, j, k => waits1 ops j k || ((ops[j]?).map fun o => o.after.any fun e => Region.binds .any e && waitsD ops d e.on k).getD false
def waitsAll (ops : Array Oper) (j : Nat) : Bool := (List.range ops.size).all fun k => k == j || waitsD ops 40 j k
/-- what an operation that has come up waits for has come up -/
def Closed (ops : Array Oper) (l : Array Bool) : Prop := ∀ j o, ops[j]? = some o → l.getD j false = true → ∀ e ∈ o.after, Region.binds .any e = true → l.getD e.on false = true
theorem Closed.start : Closed ops (Array.replicate ops.size false) := fun j o _ h => by
  by_cases hj : j < ops.size <;> simp [hj] at h
theorem Closed.step {l : Array Bool} (h : Closed ops l) {i : Nat} (hi : i ∈ Region.ready .any ops l) : Closed ops (l.setIfInBounds i true) := fun j o ho hj e he hb => by
  by_cases eij : i = j
  · subst eij
    obtain ⟨_, o', ho', hall⟩ := mem_ready.1 hi
    rw [ho] at ho'; cases ho'
    exact getD_set_true (hall e he hb)
  · have : l.getD j false = true := by
      simp only [Array.getD_eq_getD_getElem?, Array.getElem?_setIfInBounds_ne eij] at hj ⊢
      exact hj
    exact getD_set_true (h j o ho this e he hb)
theorem waitsD_up {l : Array Bool} (hc : Closed ops l) (k : Nat) : ∀ (d j : Nat), (∀ o, ops[j]? = some o → ∀ e ∈ o.after, Region.binds .any e = true → l.getD e.on false = true) → waitsD ops d j k = true → l.getD k false = true
  | 0, _, _, h => by simp [waitsD] at h
  | d + 1, j, hj, h => by
    simp only [waitsD, Bool.or_eq_true] at h
    cases ho : ops[j]? with
    | none => simp [waits1, ho] at h
    | some o =>
      simp only [waits1, ho, Option.map_some, Option.getD_some] at h
      rcases h with h | h
      · obtain ⟨e, he, hb⟩ := any_mem h
        simp only [Bool.and_eq_true, beq_iff_eq] at hb
        rw [← hb.2]; exact hj o ho e he hb.1
      · obtain ⟨e, he, hb⟩ := any_mem h
        simp only [Bool.and_eq_true] at hb
        exact waitsD_up hc k d e.on (fun o' ho' => hc e.on o' ho' (hj o ho e he hb.1)) hb.2
theorem not_waits {l : Array Bool} (hc : Closed ops l) {i j : Nat} (hj : j ∈ Region.ready .any ops l) (hi : i ∈ Region.ready .any ops l) (hne : i ≠ j) : waitsAll ops j = false := by
  obtain ⟨_, oj, hoj, hall⟩ := mem_ready.1 hj
  obtain ⟨hil, oi, hoi, _⟩ := mem_ready.1 hi
  have hlt : i < l.size := by
    rcases Nat.lt_or_ge i l.size with h | h
    · exact h
    · simp [Array.getElem?_eq_none h] at hil
  have hil' : l.getD i false = false := by simp [hlt] at hil ⊢; exact hil
  cases hw : waitsAll ops j with
  | false => rfl
  | true =>
    have := List.all_eq_true.1 hw i (List.mem_range.2 (Array.getElem?_eq_some_iff.1 hoi).1)
    simp only [Bool.or_eq_true, beq_iff_eq, hne, false_or] at this
    have := waitsD_up hc i 40 j (fun o ho => by rw [hoj] at ho; cases ho; exact hall) this
    rw [hil'] at this; cases this
/-- in whatever order; S behind each operation that does not wait for all others -/
def wpAnyE (P : Program) (ops : Array Oper) (Q : Exit → Act → World → Prop) (S : World → Prop) : Nat → Array Bool → Act → World → Prop
  | 0, l, a, w => Region.ready .any ops l = [] ∧ Q .normal a w
  | n + 1, l, a, w => (Region.ready .any ops l = [] → Q .normal a w) ∧
    ∀ i ∈ Region.ready .any ops l, wpOp P ops Q i (fun a' w' => (waitsAll ops i = false → S w') ∧ wpAnyE P ops Q S n (l.setIfInBounds i true) a' w') a w
theorem wpAny_of_E : ∀ (n : Nat) (l : Array Bool) (a : Act) (w : World), wpAnyE P ops Q S n l a w → wpAny P .any ops Q n l a w
  | 0, _, _, _, h => h
  | n + 1, _, _, _, h => ⟨h.1, fun i hi => wpOp_mono (fun a' w' h' => wpAny_of_E n _ a' w' h'.2) (h.2 i hi)⟩
/-- what only reads and may come up may be taken first -/
theorem wpAnyE_first {i : Nat} {oi : Oper} {v : Value} (hi : ops[i]? = some oi) (hs : Region.noSelect ops = true)
    (hQ : ∀ c a w, Q (.panic c) (a.put oi.dst v) w → Q (.panic c) a w) (n : Nat) :
    ∀ (l : Array Bool) (a : Act) (w : World), Closed ops l →
      (∀ j oj, ops[j]? = some oj → j ≠ i → l.getD j true = false → (∀ e ∈ oj.after, Region.binds .any e = true → e.on ≠ i) → oi.apart ops oj = true) →
      i ∈ Region.ready .any ops l → YieldsIf P ops S oi v a → S w → wpAnyE P ops Q S n (l.setIfInBounds i true) (a.put oi.dst v) w → wpAnyE P ops Q S (n + 1) l a w := by
  induction n with
  | zero =>
    intro l a w _ _ hr hy hS H
    refine ⟨fun h => absurd hr (by rw [h]; exact List.not_mem_nil), fun j hj => ?_⟩
    by_cases e : j = i
    · subst e; exact hy.wpOp hi hS ⟨fun _ => hS, H⟩
    · exact absurd (ready_mono hj e) (by rw [H.1]; exact List.not_mem_nil)
  | succ n ih =>
    intro l a w hcl hfree hr hy hS H
    refine ⟨fun h => absurd hr (by rw [h]; exact List.not_mem_nil), fun j hj => ?_⟩
    by_cases e : j = i
    · subst e; exact hy.wpOp hi hS ⟨fun _ => hS, H⟩
    · obtain ⟨hjl, oj, hoj, hall⟩ := mem_ready.1 hj
      have hil := (mem_ready.1 hr).1
      have hlt : i < l.size := by
        rcases Nat.lt_or_ge i l.size with h | h
        · exact h
        · simp [Array.getElem?_eq_none h] at hil
      have hno : ∀ x ∈ oj.after, Region.binds .any x = true → x.on ≠ i := fun x hx hb hxi => by
        have h1 := hall x hx hb
        rw [hxi] at h1
        simp [hlt] at h1 hil
        rw [hil] at h1; cases h1
      have hk := wpOp_putIf hoj (hfree j oj hoj e hjl hno) (fun cs b => Region.noSelect_spec hs i oi cs b hi) (fun cs b => Region.noSelect_spec hs j oj cs b hoj) hQ hy (H.2 j (ready_mono hj e))
      refine wpOp_mono (fun a' w' h3 => ?_) hk
      have hSw : S w' := h3.2.1 (not_waits hcl hj hr (Ne.symm e))
      refine ⟨fun _ => hSw, ih _ a' w' (hcl.step hj) (fun k ok hk1 hk2 hk3 hk4 => ?_) (ready_mono hr (Ne.symm e)) h3.1 hSw ?_⟩
      · refine hfree k ok hk1 hk2 ?_ hk4
        by_cases ejk : j = k
        · subst ejk; exact hjl
        · rw [getD_set_ne true ejk] at hk3; exact hk3
      · rw [Array.setIfInBounds_comm _ _ e]; exact h3.2.2
/-- (i, true): operation i may come up, and only reads; (i, false): operation i alone may come up -/
def movesOk (ops : Array Oper) : List (Nat × Bool) → Array Bool → Bool
  | [], l => (Region.ready .any ops l).isEmpty
  | (i, true) :: r, l => Region.free .any ops l i && (Region.ready .any ops l).contains i && movesOk ops r (l.setIfInBounds i true)
  | (i, false) :: r, l => Region.ready .any ops l == [i] && movesOk ops r (l.setIfInBounds i true)
/-- the operations in that order -/
def movesOps (ops : Array Oper) : List (Nat × Bool) → List (Oper × Bool)
  | [] => []
  | (i, b) :: r => match ops[i]? with
    | some o => (o, b) :: movesOps ops r
    | none => movesOps ops r
def wpMoves (P : Program) (ops : Array Oper) (Q : Exit → Act → World → Prop) (S : World → Prop) : List (Oper × Bool) → Act → World → Prop
  | [], a, w => Q .normal a w
  | (o, true) :: r, a, w => ∃ v, YieldsIf P ops S o v a ∧ wpMoves P ops Q S r (a.put o.dst v) w
  | (o, false) :: r, a, w => (if Region.wanted o (yielded ops a.tmps) = true then o.wp P a w (fun a' w' => (S w' ∨ r = []) ∧ wpMoves P ops Q S r a' w') Q else S w ∧ wpMoves P ops Q S r (a.put o.dst undef) w)
/-- the last move is one that waits for all others, or only reads -/
def lastOk (ops : Array Oper) : List (Nat × Bool) → Bool
  | [] => true
  | [(i, b)] => b || waitsAll ops i
  | _ :: r => lastOk ops r
theorem moves_sound (hs : Region.noSelect ops = true) (hQ : ∀ (d : Tmp) (v : Value) c a w, Q (.panic c) (a.put (some d) v) w → Q (.panic c) a w) :
    ∀ (m : List (Nat × Bool)) (l : Array Bool) (a : Act) (w : World), Closed ops l → movesOk ops m l = true → lastOk ops m = true → (S w ∨ m = []) → wpMoves P ops Q S (movesOps ops m) a w → wpAnyE P ops Q S m.length l a w
  | [], l, a, w, _, hm, _, _, h => ⟨by simpa [movesOk] using hm, h⟩
  | (i, true) :: r, l, a, w, hcl, hm, hla, hS, h => by
    have hS' : S w := by
      rcases hS with h | h
      · exact h
      · cases h
    simp only [movesOk, Bool.and_eq_true] at hm
    have hrd : i ∈ Region.ready .any ops l := by simpa using hm.1.2
    obtain ⟨_, o, ho, _⟩ := mem_ready.1 hrd
    simp only [movesOps, ho] at h
    obtain ⟨v, hy, hr⟩ := h
    have hQ' : ∀ c a w, Q (.panic c) (a.put o.dst v) w → Q (.panic c) a w := by
      cases hd : o.dst with
      | none => exact fun _ _ _ h => h
      | some d => exact hQ d v
    have hla' : lastOk ops r = true := by
      cases r with
      | nil => rfl
      | cons x r => simpa [lastOk] using hla
    exact wpAnyE_first ho hs hQ' r.length l a w hcl (Region.free_spec ho hm.1.1) hrd hy hS' (moves_sound hs hQ r _ _ w (hcl.step hrd) hm.2 hla' (.inl hS') hr)
  | (i, false) :: r, l, a, w, hcl, hm, hla, _, h => by
    simp only [movesOk, Bool.and_eq_true, beq_iff_eq] at hm
    have hrd : i ∈ Region.ready .any ops l := by rw [hm.1]; simp
    obtain ⟨_, o, ho, _⟩ := mem_ready.1 hrd
    simp only [movesOps, ho] at h
    have hla' : lastOk ops r = true := by
      cases r with
      | nil => rfl
      | cons x r => simpa [lastOk] using hla
    have hnil : movesOps ops r = [] → r = [] := fun e => by
      cases r with
      | nil => rfl
      | cons x r =>
        obtain ⟨k, b⟩ := x
        have hk : ∃ o, ops[k]? = some o := by
          cases b with
          | true =>
            have h2 := hm.2
            simp only [movesOk, Bool.and_eq_true] at h2
            have : k ∈ Region.ready .any ops (l.setIfInBounds i true) := by simpa using h2.1.2
            obtain ⟨_, o, ho, _⟩ := mem_ready.1 this
            exact ⟨o, ho⟩
          | false =>
            have h2 := hm.2
            simp only [movesOk, Bool.and_eq_true, beq_iff_eq] at h2
            have : k ∈ Region.ready .any ops (l.setIfInBounds i true) := by rw [h2.1]; simp
            obtain ⟨_, o, ho, _⟩ := mem_ready.1 this
            exact ⟨o, ho⟩
        obtain ⟨o, ho⟩ := hk
        simp [movesOps, ho] at e
    refine ⟨fun h0 => absurd hrd (by rw [h0]; exact List.not_mem_nil), fun j hj => ?_⟩
    obtain rfl : j = i := by rw [hm.1] at hj; simpa using hj
    have hwa : r = [] → waitsAll ops j = true := fun e => by subst e; simpa [lastOk] using hla
    unfold wpOp
    simp only [ho]
    split
    · rename_i hw
      simp only [wpMoves, hw, if_true] at h
      refine .inl (Oper.wp_mono (fun a' w' h' => ⟨fun hf => ?_, moves_sound hs hQ r _ a' w' (hcl.step hrd) hm.2 hla' (h'.1.imp id hnil) h'.2⟩) h)
      rcases h'.1 with h1 | h1
      · exact h1
      · rw [hwa (hnil h1)] at hf; cases hf
    · rename_i hw
      simp only [wpMoves, hw] at h
      exact ⟨fun _ => h.1, moves_sound hs hQ r _ _ w (hcl.step hrd) hm.2 hla' (.inl h.1) h.2⟩
/-- THE REGION -/
theorem wp_region_moves {id : Nat} {a : Act} {w : World} (S : World → Prop) (m : List (Nat × Bool)) (hf : P.follows .mixedOrders = true) (hs : Region.noSelect ops = true)
    (hm : (movesOk ops m (Array.replicate ops.size false) && lastOk ops m && (m.length == ops.size)) = true) (hQ : ∀ (d : Tmp) (v : Value) c a w, Q (.panic c) (a.put (some d) v) w → Q (.panic c) a w)
    (hS : S w.drew) (h : wpMoves P ops Q S (movesOps ops m) a w.drew) : (Code.region id ops true).wp P Q a w := by
  simp only [Bool.and_eq_true, beq_iff_eq] at hm
  have h2 := moves_sound hs hQ m _ a w.drew Closed.start hm.1.1 hm.1.2 (.inl hS) h
  rw [hm.2] at h2
  exact wp_region_any hf (wpAny_of_E _ _ _ _ h2)
theorem mv_still {r : List (Oper × Bool)} {a : Act} {w : World} {o : Oper} (v : Value) (hw : Region.wanted o (yielded ops a.tmps) = true)
    (hv : ∀ W, S W → (execOp a.eval o).run P W = .ok (.value v) W) (h : wpMoves P ops Q S r (a.put o.dst v) w) : wpMoves P ops Q S ((o, true) :: r) a w :=
  ⟨v, .inl ⟨hw, hv⟩, h⟩
theorem mv_skip {r : List (Oper × Bool)} {a : Act} {w : World} {o : Oper} (hw : Region.wanted o (yielded ops a.tmps) = false)
    (h : wpMoves P ops Q S r (a.put o.dst undef) w) : wpMoves P ops Q S ((o, true) :: r) a w :=
  ⟨undef, .inr ⟨hw, rfl⟩, h⟩
/-- an operation that acts: S behind it -/
theorem mv_run {r : List (Oper × Bool)} {a : Act} {w : World} {o : Oper} (hw : Region.wanted o (yielded ops a.tmps) = true)
    (h : ∀ K : Act → World → Prop, (∀ a' w', S w' → wpMoves P ops Q S r a' w' → K a' w') → o.wp P a w K Q) : wpMoves P ops Q S ((o, false) :: r) a w := by
  unfold wpMoves
  rw [if_pos hw]
  exact h _ fun a' w' h1 h2 => ⟨.inl h1, h2⟩
/-- the last operation -/
theorem mv_last {a : Act} {w : World} {o : Oper} (hw : Region.wanted o (yielded ops a.tmps) = true)
    (h : ∀ K : Act → World → Prop, (∀ a' w', Q .normal a' w' → K a' w') → o.wp P a w K Q) : wpMoves P ops Q S [(o, false)] a w := by
  unfold wpMoves
  rw [if_pos hw]
  exact h _ fun a' w' h2 => ⟨.inr rfl, h2⟩
theorem mv_pass {r : List (Oper × Bool)} {a : Act} {w : World} {o : Oper} (hw : Region.wanted o (yielded ops a.tmps) = false)
    (hS : S w) (h : wpMoves P ops Q S r (a.put o.dst undef) w) : wpMoves P ops Q S ((o, false) :: r) a w := by
  unfold wpMoves
  rw [if_neg (by rw [hw]; simp)]
  exact ⟨hS, h⟩
theorem mv_end {a : Act} {w : World} (h : Q .normal a w) : wpMoves P ops Q S [] a w := h
end
end Go.Proofs.Ytnjafdjolfdklaa
