/- A region that leaves its order open, once more: what each reader leans on (S k) is asked behind an operation only if the reader may come then. No statement of the seat is proved here. -/
import Derived.Test.YtnjafdjolfdklaaRange
namespace Go.Proofs.Ytnjafdjolfdklaa
set_option linter.unusedVariables false
set_option linter.unusedSimpArgs false
open Go.RowKit
section
variable {P : Program} {ops : Array Oper} {Q : Exit → Act → World → Prop} {S : Nat → World → Prop} {R : List Nat}
/-- no operation that has come up, and is no reader, waits for k -/
def pend (ops : Array Oper) (R : List Nat) (l : Array Bool) (k : Nat) : Bool := (List.range ops.size).all fun j => R.contains j || !(l.getD j false) || !(waitsD ops 40 j k)
/-- in whatever order; S behind each operation for the readers that may still come -/
def wpAnyR (P : Program) (ops : Array Oper) (Q : Exit → Act → World → Prop) (S : Nat → World → Prop) (R : List Nat) : Nat → Array Bool → Act → World → Prop
  | 0, l, a, w => Region.ready .any ops l = [] ∧ Q .normal a w
  | n + 1, l, a, w => (Region.ready .any ops l = [] → Q .normal a w) ∧
    ∀ i ∈ Region.ready .any ops l, wpOp P ops Q i (fun a' w' => (∀ k ∈ R, pend ops R (l.setIfInBounds i true) k = true → S k w') ∧ wpAnyR P ops Q S R n (l.setIfInBounds i true) a' w') a w
theorem wpAny_of_R : ∀ (n : Nat) (l : Array Bool) (a : Act) (w : World), wpAnyR P ops Q S R n l a w → wpAny P .any ops Q n l a w
  | 0, _, _, _, h => h
  | n + 1, _, _, _, h => ⟨h.1, fun i hi => wpOp_mono (fun a' w' h' => wpAny_of_R n _ a' w' h'.2) (h.2 i hi)⟩
theorem getD_set_other {l : Array Bool} {i k : Nat} (h : k ≠ i) : (l.setIfInBounds i true).getD k false = l.getD k false := by
  simp only [Array.getD_eq_getD_getElem?, Array.getElem?_setIfInBounds_ne (Ne.symm h)]
/-- a reader that comes up changes nothing of that -/
theorem pend_set {l : Array Bool} {i k : Nat} (hi : i ∈ R) : pend ops R (l.setIfInBounds i true) k = pend ops R l k := by
  unfold pend
  congr 1
  funext j
  by_cases e : j = i
  · subst e; simp [hi]
  · rw [getD_set_other e]
theorem pend_ready {l : Array Bool} (hc : Closed ops l) {i : Nat} (hi : i ∈ Region.ready .any ops l) : pend ops R l i = true := by
  obtain ⟨hil, oi, hoi, _⟩ := mem_ready.1 hi
  have hlt : i < l.size := by
    rcases Nat.lt_or_ge i l.size with h | h
    · exact h
    · simp [Array.getElem?_eq_none h] at hil
  have hil' : l.getD i false = false := by simp [hlt] at hil ⊢; exact hil
  refine List.all_eq_true.2 fun j hj => ?_
  cases hlj : l.getD j false with
  | false => simp
  | true =>
    cases hw : waitsD ops 40 j i with
    | false => simp
    | true =>
      have := waitsD_up hc i 40 j (fun o ho => hc j o ho hlj) hw
      rw [hil'] at this; cases this
theorem wpAnyR_first {i : Nat} {oi : Oper} {v : Value} (hR : i ∈ R) (hi : ops[i]? = some oi) (hs : Region.noSelect ops = true)
    (hQ : ∀ c a w, Q (.panic c) (a.put oi.dst v) w → Q (.panic c) a w) (n : Nat) :
    ∀ (l : Array Bool) (a : Act) (w : World), Closed ops l →
      (∀ j oj, ops[j]? = some oj → j ≠ i → l.getD j true = false → (∀ e ∈ oj.after, Region.binds .any e = true → e.on ≠ i) → oi.apart ops oj = true) →
      i ∈ Region.ready .any ops l → YieldsIf P ops (S i) oi v a → (∀ k ∈ R, pend ops R l k = true → S k w) → wpAnyR P ops Q S R n (l.setIfInBounds i true) (a.put oi.dst v) w → wpAnyR P ops Q S R (n + 1) l a w := by
  induction n with
  | zero =>
    intro l a w hcl _ hr hy hS H
    refine ⟨fun h => absurd hr (by rw [h]; exact List.not_mem_nil), fun j hj => ?_⟩
    by_cases e : j = i
    · subst e; exact hy.wpOp hi (hS _ hR (pend_ready hcl hr)) ⟨fun k hk hp => hS k hk (by rw [pend_set hR] at hp; exact hp), H⟩
    · exact absurd (ready_mono hj e) (by rw [H.1]; exact List.not_mem_nil)
  | succ n ih =>
    intro l a w hcl hfree hr hy hS H
    refine ⟨fun h => absurd hr (by rw [h]; exact List.not_mem_nil), fun j hj => ?_⟩
    by_cases e : j = i
    · subst e; exact hy.wpOp hi (hS _ hR (pend_ready hcl hr)) ⟨fun k hk hp => hS k hk (by rw [pend_set hR] at hp; exact hp), H⟩
    · obtain ⟨hjl, oj, hoj, hall⟩ := mem_ready.1 hj
      have hil := (mem_ready.1 hr).1
      have hlt : i < l.size := by
        rcases Nat.lt_or_ge i l.size with h | h
        · exact h
        · simp [Array.getElem?_eq_none h] at hil
      have hno : ∀ x ∈ oj.after, Region.binds .any x = true → x.on ≠ i := fun x hx hb hxi => by
        have h1 := hall x hx hb
        rw [hxi] at h1
        simp [hlt] at h1 hil
        rw [hil] at h1; cases h1
      have hk := wpOp_putIf hoj (hfree j oj hoj e hjl hno) (fun cs b => Region.noSelect_spec hs i oi cs b hi) (fun cs b => Region.noSelect_spec hs j oj cs b hoj) hQ hy (H.2 j (ready_mono hj e))
      refine wpOp_mono (fun a' w' h3 => ?_) hk
      have hS' : ∀ k ∈ R, pend ops R (l.setIfInBounds j true) k = true → S k w' := fun k hk hp => h3.2.1 k hk (by rw [← Array.setIfInBounds_comm _ _ e, pend_set hR]; exact hp)
      refine ⟨hS', ih _ a' w' (hcl.step hj) (fun k ok hk1 hk2 hk3 hk4 => ?_) (ready_mono hr (Ne.symm e)) h3.1 hS' ?_⟩
      · refine hfree k ok hk1 hk2 ?_ hk4
        by_cases ejk : j = k
        · subst ejk; exact hjl
        · rw [getD_set_ne true ejk] at hk3; exact hk3
      · rw [Array.setIfInBounds_comm _ _ e]; exact h3.2.2
/-- (i, none): operation i may come up, and only reads; (i, some L): it alone may come up; behind it the readers L may still come -/
def movesOk2 (ops : Array Oper) (R : List Nat) : List (Nat × Option (List Nat)) → Array Bool → Bool
  | [], l => (Region.ready .any ops l).isEmpty
  | (i, none) :: r, l => R.contains i && Region.free .any ops l i && (Region.ready .any ops l).contains i && movesOk2 ops R r (l.setIfInBounds i true)
  | (i, some L) :: r, l => Region.ready .any ops l == [i] && R.all (fun k => L.contains k || !pend ops R (l.setIfInBounds i true) k) && movesOk2 ops R r (l.setIfInBounds i true)
def movesOps2 (ops : Array Oper) : List (Nat × Option (List Nat)) → List (Oper × Nat × Option (List Nat))
  | [] => []
  | (i, b) :: r => match ops[i]? with
    | some o => (o, i, b) :: movesOps2 ops r
    | none => movesOps2 ops r
def wpMoves2 (P : Program) (ops : Array Oper) (Q : Exit → Act → World → Prop) (S : Nat → World → Prop) : List (Oper × Nat × Option (List Nat)) → Act → World → Prop
  | [], a, w => Q .normal a w
  | (o, i, none) :: r, a, w => ∃ v, YieldsIf P ops (S i) o v a ∧ wpMoves2 P ops Q S r (a.put o.dst v) w
  | (o, _, some L) :: r, a, w => (if Region.wanted o (yielded ops a.tmps) = true then o.wp P a w (fun a' w' => (∀ k ∈ L, S k w') ∧ wpMoves2 P ops Q S r a' w') Q else (∀ k ∈ L, S k w) ∧ wpMoves2 P ops Q S r (a.put o.dst undef) w)
theorem moves2_sound (hs : Region.noSelect ops = true) (hQ : ∀ (d : Tmp) (v : Value) c a w, Q (.panic c) (a.put (some d) v) w → Q (.panic c) a w) :
    ∀ (m : List (Nat × Option (List Nat))) (l : Array Bool) (a : Act) (w : World), Closed ops l → movesOk2 ops R m l = true → (∀ k ∈ R, pend ops R l k = true → S k w) → wpMoves2 P ops Q S (movesOps2 ops m) a w → wpAnyR P ops Q S R m.length l a w
  | [], l, a, w, _, hm, _, h => ⟨by simpa [movesOk2] using hm, h⟩
  | (i, none) :: r, l, a, w, hcl, hm, hS, h => by
    simp only [movesOk2, Bool.and_eq_true] at hm
    have hrd : i ∈ Region.ready .any ops l := by simpa using hm.1.2
    have hR : i ∈ R := by simpa using hm.1.1.1
    obtain ⟨_, o, ho, _⟩ := mem_ready.1 hrd
    simp only [movesOps2, ho] at h
    obtain ⟨v, hy, hr⟩ := h
    have hQ' : ∀ c a w, Q (.panic c) (a.put o.dst v) w → Q (.panic c) a w := by
      cases hd : o.dst with
      | none => exact fun _ _ _ h => h
      | some d => exact hQ d v
    exact wpAnyR_first hR ho hs hQ' r.length l a w hcl (Region.free_spec ho hm.1.1.2) hrd hy hS (moves2_sound hs hQ r _ _ w (hcl.step hrd) hm.2 (fun k hk hp => hS k hk (by rw [pend_set hR] at hp; exact hp)) hr)
  | (i, some L) :: r, l, a, w, hcl, hm, _, h => by
    simp only [movesOk2, Bool.and_eq_true, beq_iff_eq] at hm
    have hrd : i ∈ Region.ready .any ops l := by rw [hm.1.1]; simp
    obtain ⟨_, o, ho, _⟩ := mem_ready.1 hrd
    simp only [movesOps2, ho] at h
    have hL : ∀ k ∈ R, pend ops R (l.setIfInBounds i true) k = true → k ∈ L := fun k hk hp => by
      have := List.all_eq_true.1 hm.1.2 k hk
      simpa [hp] using this
    refine ⟨fun h0 => absurd hrd (by rw [h0]; exact List.not_mem_nil), fun j hj => ?_⟩
    obtain rfl : j = i := by rw [hm.1.1] at hj; simpa using hj
    unfold wpOp
    simp only [ho]
    split
    · rename_i hw
      simp only [wpMoves2, hw, if_true] at h
      exact .inl (Oper.wp_mono (fun a' w' h' => ⟨fun k hk hp => h'.1 k (hL k hk hp), moves2_sound hs hQ r _ a' w' (hcl.step hrd) hm.2 (fun k hk hp => h'.1 k (hL k hk hp)) h'.2⟩) h)
    · rename_i hw
      simp only [wpMoves2, hw] at h
      exact ⟨fun k hk hp => h.1 k (hL k hk hp), moves2_sound hs hQ r _ _ w (hcl.step hrd) hm.2 (fun k hk hp => h.1 k (hL k hk hp)) h.2⟩
def stills : List (Nat × Option (List Nat)) → List Nat
  | [] => []
  | (i, none) :: r => i :: stills r
  | _ :: r => stills r
/-- THE REGION -/
theorem wp_region_moves2 {id : Nat} {a : Act} {w : World} (S : Nat → World → Prop) (m : List (Nat × Option (List Nat))) (hf : P.follows .mixedOrders = true) (hs : Region.noSelect ops = true)
    (hm : (movesOk2 ops (stills m) m (Array.replicate ops.size false) && (m.length == ops.size)) = true) (hQ : ∀ (d : Tmp) (v : Value) c a w, Q (.panic c) (a.put (some d) v) w → Q (.panic c) a w)
    (hS : ∀ k, S k w.drew) (h : wpMoves2 P ops Q S (movesOps2 ops m) a w.drew) : (Code.region id ops true).wp P Q a w := by
  simp only [Bool.and_eq_true, beq_iff_eq] at hm
  have h2 := moves2_sound hs hQ m _ a w.drew Closed.start hm.1 (fun k _ _ => hS k) h
  rw [hm.2] at h2
  exact wp_region_any hf (wpAny_of_R _ _ _ _ h2)
/-- in a round -/
theorem round_region_moves2 {n l id : Nat} {a : Act} {w : World} (S : Nat → World → Prop) (m : List (Nat × Option (List Nat))) (hn : ¬ LetsOut Q) (hd : noDefer ops = true) (hf : P.follows .mixedOrders = true) (hs : Region.noSelect ops = true)
    (hm : (movesOk2 ops (stills m) m (Array.replicate ops.size false) && (m.length == ops.size)) = true) (hQ : ∀ (d : Tmp) (v : Value) c a w, Q (.panic c) (a.put (some d) v) w → Q (.panic c) a w)
    (hS : ∀ k, S k w.drew) (h : wpMoves2 P ops Q S (movesOps2 ops m) a w.drew) : (Code.region id ops true).wpIn (Fence.wide.inRound l) n P Q a w := by
  simp only [Bool.and_eq_true, beq_iff_eq] at hm
  have h2 := moves2_sound hs hQ m _ a w.drew Closed.start hm.1 (fun k _ _ => hS k) h
  rw [hm.2] at h2
  exact wpIn_region_any hf (wpAnyIn_of hn hd _ _ _ _ (wpAny_of_R _ _ _ _ h2))
/-- a reader -/
theorem m2_still {r : List (Oper × Nat × Option (List Nat))} {a : Act} {w : World} {o : Oper} {i : Nat} (v : Value) (hw : Region.wanted o (yielded ops a.tmps) = true)
    (hv : ∀ W, S i W → (execOp a.eval o).run P W = .ok (.value v) W) (h : wpMoves2 P ops Q S r (a.put o.dst v) w) : wpMoves2 P ops Q S ((o, i, none) :: r) a w :=
  ⟨v, .inl ⟨hw, hv⟩, h⟩
theorem m2_skip {r : List (Oper × Nat × Option (List Nat))} {a : Act} {w : World} {o : Oper} {i : Nat} (hw : Region.wanted o (yielded ops a.tmps) = false)
    (h : wpMoves2 P ops Q S r (a.put o.dst undef) w) : wpMoves2 P ops Q S ((o, i, none) :: r) a w :=
  ⟨undef, .inr ⟨hw, rfl⟩, h⟩
/-- an operation that acts: S behind it for the readers that may still come -/
theorem m2_run {r : List (Oper × Nat × Option (List Nat))} {a : Act} {w : World} {o : Oper} {i : Nat} {L : List Nat} (hw : Region.wanted o (yielded ops a.tmps) = true)
    (h : ∀ K : Act → World → Prop, (∀ a' w', (∀ k ∈ L, S k w') → wpMoves2 P ops Q S r a' w' → K a' w') → o.wp P a w K Q) : wpMoves2 P ops Q S ((o, i, some L) :: r) a w := by
  unfold wpMoves2
  rw [if_pos hw]
  exact h _ fun a' w' h1 h2 => ⟨h1, h2⟩
theorem m2_free {r : List (Oper × Nat × Option (List Nat))} {a : Act} {w : World} {o : Oper} {i : Nat} (hw : Region.wanted o (yielded ops a.tmps) = true)
    (h : ∀ K : Act → World → Prop, (∀ a' w', wpMoves2 P ops Q S r a' w' → K a' w') → o.wp P a w K Q) : wpMoves2 P ops Q S ((o, i, some []) :: r) a w := by
  unfold wpMoves2
  rw [if_pos hw]
  exact h _ fun a' w' h2 => ⟨fun _ h => (by cases h), h2⟩
theorem m2_pass {r : List (Oper × Nat × Option (List Nat))} {a : Act} {w : World} {o : Oper} {i : Nat} {L : List Nat} (hw : Region.wanted o (yielded ops a.tmps) = false)
    (hS : ∀ k ∈ L, S k w) (h : wpMoves2 P ops Q S r (a.put o.dst undef) w) : wpMoves2 P ops Q S ((o, i, some L) :: r) a w := by
  unfold wpMoves2
  rw [if_neg (by rw [hw]; simp)]
  exact ⟨hS, h⟩
theorem m2_end {a : Act} {w : World} (h : Q .normal a w) : wpMoves2 P ops Q S [] a w := h
end
end Go.Proofs.Ytnjafdjolfdklaa
