/- A region that leaves its order open, where operations that act may come up one or the other first: each order is walked. No statement of the seat is proved here. -/
import Derived.Test.YtnjafdjolfdklaaPut
namespace Go.Proofs.Ytnjafdjolfdklaa
set_option linter.unusedVariables false
set_option linter.unusedSimpArgs false
open Go.RowKit
inductive Mv
  | fin
  | still (i : Nat) (r : Mv)
  | act (i : Nat) (L : List Nat) (r : Mv)
  | alt (i : Nat) (L : List Nat) (r : Mv) (m : Mv)
section
variable {P : Program} {ops : Array Oper} {Q : Exit → Act → World → Prop} {S : Nat → World → Prop} {R : List Nat}
def Mv.heads : Mv → List Nat
  | act i _ _ => [i]
  | alt i _ _ m => i :: m.heads
  | _ => []
def Mv.len : Mv → Nat
  | fin => 0
  | still _ r => r.len + 1
  | act _ _ r => r.len + 1
  | alt _ _ r _ => r.len + 1
/-- b: which operations may come up is looked at here -/
def Mv.ok (ops : Array Oper) (R : List Nat) : Bool → Mv → Array Bool → Nat → Bool
  | _, fin, l, n => (Region.ready .any ops l).isEmpty && n == 0
  | _, still i r, l, n => R.contains i && Region.free .any ops l i && (Region.ready .any ops l).contains i && n == r.len + 1 && r.ok ops R true (l.setIfInBounds i true) r.len
  | b, act i L r, l, n => (!b || ((Region.ready .any ops l).contains i && (Region.ready .any ops l).all (fun j => j == i))) && R.all (fun k => L.contains k || !pend ops R (l.setIfInBounds i true) k) && n == r.len + 1 && r.ok ops R true (l.setIfInBounds i true) r.len
  | b, alt i L r m, l, n => (!b || ((Region.ready .any ops l).contains i && (Region.ready .any ops l).all (fun j => (i :: m.heads).contains j))) && R.all (fun k => L.contains k || !pend ops R (l.setIfInBounds i true) k) && n == r.len + 1 && r.ok ops R true (l.setIfInBounds i true) r.len && m.ok ops R false l n
def wpM (P : Program) (ops : Array Oper) (Q : Exit → Act → World → Prop) (S : Nat → World → Prop) : Mv → Act → World → Prop
  | .fin, a, w => Q .normal a w
  | .still i r, a, w => ∀ o, ops[i]? = some o → ∃ v, YieldsIf P ops (S i) o v a ∧ wpM P ops Q S r (a.put o.dst v) w
  | .act i L r, a, w => ∀ o, ops[i]? = some o → if Region.wanted o (yielded ops a.tmps) = true then o.wp P a w (fun a' w' => (∀ k ∈ L, S k w') ∧ wpM P ops Q S r a' w') Q else (∀ k ∈ L, S k w) ∧ wpM P ops Q S r (a.put o.dst undef) w
  | .alt i L r m, a, w => (∀ o, ops[i]? = some o → if Region.wanted o (yielded ops a.tmps) = true then o.wp P a w (fun a' w' => (∀ k ∈ L, S k w') ∧ wpM P ops Q S r a' w') Q else (∀ k ∈ L, S k w) ∧ wpM P ops Q S r (a.put o.dst undef) w) ∧ wpM P ops Q S m a w
theorem wpOp_of_act {i : Nat} {L : List Nat} {l : Array Bool} {K : Act → World → Prop} {T : Act → World → Prop} {a : Act} {w : World} (hi : i ∈ Region.ready .any ops l)
    (hL : R.all (fun k => L.contains k || !pend ops R (l.setIfInBounds i true) k) = true) (hT : ∀ a w, (∀ k ∈ R, pend ops R (l.setIfInBounds i true) k = true → S k w) → K a w → T a w)
    (h : ∀ o, ops[i]? = some o → if Region.wanted o (yielded ops a.tmps) = true then o.wp P a w (fun a' w' => (∀ k ∈ L, S k w') ∧ K a' w') Q else (∀ k ∈ L, S k w) ∧ K (a.put o.dst undef) w) :
    wpOp P ops Q i (fun a' w' => (∀ k ∈ R, pend ops R (l.setIfInBounds i true) k = true → S k w') ∧ T a' w') a w := by
  obtain ⟨_, o, ho, _⟩ := mem_ready.1 hi
  have hL' : ∀ k ∈ R, pend ops R (l.setIfInBounds i true) k = true → k ∈ L := fun k hk hp => by
    have := List.all_eq_true.1 hL k hk
    simpa [hp] using this
  have h := h o ho
  unfold wpOp
  simp only [ho]
  split
  · rename_i hw
    rw [if_pos hw] at h
    exact .inl (Oper.wp_mono (fun a' w' h' => ⟨fun k hk hp => h'.1 k (hL' k hk hp), hT _ _ (fun k hk hp => h'.1 k (hL' k hk hp)) h'.2⟩) h)
  · rename_i hw
    rw [if_neg hw] at h
    exact ⟨fun k hk hp => h.1 k (hL' k hk hp), hT _ _ (fun k hk hp => h.1 k (hL' k hk hp)) h.2⟩
/-- the branches: each operation that may come up and is named -/
theorem Mv.sound (hs : Region.noSelect ops = true) (hQ : ∀ (d : Tmp) (v : Value) c a w, Q (.panic c) (a.put (some d) v) w → Q (.panic c) a w) :
    ∀ (m : Mv), (∀ (l : Array Bool) (a : Act) (w : World) (n : Nat), Closed ops l → m.ok ops R true l n = true → (∀ k ∈ R, pend ops R l k = true → S k w) → wpM P ops Q S m a w → wpAnyR P ops Q S R n l a w) ∧
      (∀ (l : Array Bool) (a : Act) (w : World) (n : Nat) (b : Bool), Closed ops l → m.ok ops R b l (n + 1) = true → wpM P ops Q S m a w → ∀ i ∈ Region.ready .any ops l, i ∈ m.heads →
        wpOp P ops Q i (fun a' w' => (∀ k ∈ R, pend ops R (l.setIfInBounds i true) k = true → S k w') ∧ wpAnyR P ops Q S R n (l.setIfInBounds i true) a' w') a w)
  | .fin => by
    refine ⟨fun l a w n _ hm _ h => ?_, fun _ _ _ _ _ _ _ _ i _ hi => by cases hi⟩
    simp only [ok, Bool.and_eq_true, beq_iff_eq] at hm
    obtain ⟨h0, rfl⟩ := hm
    exact ⟨by simpa using h0, h⟩
  | .still i r => by
    refine ⟨fun l a w n hcl hm hS h => ?_, fun _ _ _ _ _ _ _ _ i _ hi => by cases hi⟩
    simp only [ok, Bool.and_eq_true, beq_iff_eq] at hm
    obtain ⟨⟨⟨⟨hR, hf⟩, hrd⟩, rfl⟩, hr⟩ := hm
    have hrd : i ∈ Region.ready .any ops l := by simpa using hrd
    have hR : i ∈ R := by simpa using hR
    obtain ⟨_, o, ho, _⟩ := mem_ready.1 hrd
    obtain ⟨v, hy, h⟩ := h o ho
    have hQ' : ∀ c a w, Q (.panic c) (a.put o.dst v) w → Q (.panic c) a w := by
      cases hd : o.dst with
      | none => exact fun _ _ _ h => h
      | some d => exact hQ d v
    exact wpAnyR_first hR ho hs hQ' r.len l a w hcl (Region.free_spec ho hf) hrd hy hS ((Mv.sound hs hQ r).1 _ _ w _ (hcl.step hrd) hr (fun k hk hp => hS k hk (by rw [pend_set hR] at hp; exact hp)) h)
  | .act i L r => by
    have second : ∀ (l : Array Bool) (a : Act) (w : World) (n : Nat) (b : Bool), Closed ops l → (Mv.act i L r).ok ops R b l (n + 1) = true → wpM P ops Q S (.act i L r) a w → ∀ j ∈ Region.ready .any ops l, j ∈ (Mv.act i L r).heads →
        wpOp P ops Q j (fun a' w' => (∀ k ∈ R, pend ops R (l.setIfInBounds j true) k = true → S k w') ∧ wpAnyR P ops Q S R n (l.setIfInBounds j true) a' w') a w := fun l a w n b hcl hm h j hj hh => by
      simp only [ok, Bool.and_eq_true, beq_iff_eq] at hm
      obtain ⟨⟨⟨_, hL⟩, hn⟩, hr⟩ := hm
      have hn : n = r.len := by omega
      subst hn
      obtain rfl : j = i := by simpa [heads] using hh
      exact wpOp_of_act hj hL (fun a' w' hS h' => (Mv.sound hs hQ r).1 _ _ _ _ (hcl.step hj) hr hS h') h
    refine ⟨fun l a w n hcl hm hS h => ?_, second⟩
    have hm' := hm
    simp only [ok, Bool.and_eq_true, beq_iff_eq] at hm
    obtain ⟨⟨⟨hall, _⟩, hn⟩, _⟩ := hm
    subst hn
    simp only [Bool.not_true, Bool.false_or, Bool.and_eq_true] at hall
    have hsub : ∀ j ∈ Region.ready .any ops l, j = i := fun j hj => by simpa using List.all_eq_true.1 hall.2 j hj
    have hin : i ∈ Region.ready .any ops l := by simpa using hall.1
    exact ⟨fun h0 => absurd hin (by rw [h0]; exact List.not_mem_nil), fun j hj => second l a w r.len true hcl hm' h j hj (by simp [heads, hsub j hj])⟩
  | .alt i L r m => by
    have second : ∀ (l : Array Bool) (a : Act) (w : World) (n : Nat) (b : Bool), Closed ops l → (Mv.alt i L r m).ok ops R b l (n + 1) = true → wpM P ops Q S (.alt i L r m) a w → ∀ j ∈ Region.ready .any ops l, j ∈ (Mv.alt i L r m).heads →
        wpOp P ops Q j (fun a' w' => (∀ k ∈ R, pend ops R (l.setIfInBounds j true) k = true → S k w') ∧ wpAnyR P ops Q S R n (l.setIfInBounds j true) a' w') a w := fun l a w n b hcl hm h j hj hh => by
      simp only [ok, Bool.and_eq_true, beq_iff_eq] at hm
      obtain ⟨⟨⟨⟨_, hL⟩, hn⟩, hr⟩, hmm⟩ := hm
      by_cases e : j = i
      · subst e
        have hn : n = r.len := by omega
        subst hn
        exact wpOp_of_act hj hL (fun a' w' hS h' => (Mv.sound hs hQ r).1 _ _ _ _ (hcl.step hj) hr hS h') h.1
      · have hh' : j ∈ m.heads := by simpa [heads, e] using hh
        exact (Mv.sound hs hQ m).2 l a w n false hcl hmm h.2 j hj hh'
    refine ⟨fun l a w n hcl hm hS h => ?_, second⟩
    have hm' := hm
    simp only [ok, Bool.and_eq_true, beq_iff_eq] at hm
    obtain ⟨⟨⟨⟨hall, _⟩, hn⟩, _⟩, _⟩ := hm
    subst hn
    simp only [Bool.not_true, Bool.false_or, Bool.and_eq_true] at hall
    have hsub : ∀ j ∈ Region.ready .any ops l, j ∈ i :: m.heads := fun j hj => by simpa using List.all_eq_true.1 hall.2 j hj
    have hin : i ∈ Region.ready .any ops l := by simpa using hall.1
    exact ⟨fun h0 => absurd hin (by rw [h0]; exact List.not_mem_nil), fun j hj => second l a w r.len true hcl hm' h j hj (hsub j hj)⟩
def Mv.stills : Mv → List Nat
  | fin => []
  | still i r => i :: r.stills
  | act _ _ r => r.stills
  | alt _ _ r m => r.stills ++ m.stills
/-- THE REGION -/
theorem wp_region_mv {id : Nat} {a : Act} {w : World} (S : Nat → World → Prop) (m : Mv) (hf : P.follows .mixedOrders = true) (hs : Region.noSelect ops = true)
    (hm : m.ok ops m.stills true (Array.replicate ops.size false) ops.size = true) (hQ : ∀ (d : Tmp) (v : Value) c a w, Q (.panic c) (a.put (some d) v) w → Q (.panic c) a w)
    (hS : ∀ k, S k w.drew) (h : wpM P ops Q S m a w.drew) : (Code.region id ops true).wp P Q a w :=
  wp_region_any hf (wpAny_of_R _ _ _ _ ((Mv.sound hs hQ m).1 _ a w.drew _ Closed.start hm (fun k _ _ => hS k) h))
theorem round_region_mv {n l id : Nat} {a : Act} {w : World} (S : Nat → World → Prop) (m : Mv) (hn : ¬ LetsOut Q) (hd : noDefer ops = true) (hf : P.follows .mixedOrders = true) (hs : Region.noSelect ops = true)
    (hm : m.ok ops m.stills true (Array.replicate ops.size false) ops.size = true) (hQ : ∀ (d : Tmp) (v : Value) c a w, Q (.panic c) (a.put (some d) v) w → Q (.panic c) a w)
    (hS : ∀ k, S k w.drew) (h : wpM P ops Q S m a w.drew) : (Code.region id ops true).wpIn (Fence.wide.inRound l) n P Q a w :=
  wpIn_region_any hf (wpAnyIn_of hn hd _ _ _ _ (wpAny_of_R _ _ _ _ ((Mv.sound hs hQ m).1 _ a w.drew _ Closed.start hm (fun k _ _ => hS k) h)))
/-- a reader -/
theorem m3_still {r : Mv} {a : Act} {w : World} {i : Nat} (o : Oper) (v : Value) (ho : ops[i]? = some o) (hw : Region.wanted o (yielded ops a.tmps) = true)
    (hv : ∀ W, S i W → (execOp a.eval o).run P W = .ok (.value v) W) (h : wpM P ops Q S r (a.put o.dst v) w) : wpM P ops Q S (.still i r) a w := fun o' ho' => by
  rw [ho] at ho'; cases ho'
  exact ⟨v, .inl ⟨hw, hv⟩, h⟩
theorem m3_skip {r : Mv} {a : Act} {w : World} {i : Nat} (o : Oper) (ho : ops[i]? = some o) (hw : Region.wanted o (yielded ops a.tmps) = false)
    (h : wpM P ops Q S r (a.put o.dst undef) w) : wpM P ops Q S (.still i r) a w := fun o' ho' => by
  rw [ho] at ho'; cases ho'
  exact ⟨undef, .inr ⟨hw, rfl⟩, h⟩
/-- an operation that acts -/
theorem m3_act {r : Mv} {a : Act} {w : World} {i : Nat} {L : List Nat} (o : Oper) (ho : ops[i]? = some o) (hw : Region.wanted o (yielded ops a.tmps) = true)
    (h : ∀ K : Act → World → Prop, (∀ a' w', (∀ k ∈ L, S k w') → wpM P ops Q S r a' w' → K a' w') → o.wp P a w K Q) : wpM P ops Q S (.act i L r) a w := fun o' ho' => by
  rw [ho] at ho'; cases ho'
  rw [if_pos hw]
  exact h _ fun a' w' h1 h2 => ⟨h1, h2⟩
theorem m3_pass {r : Mv} {a : Act} {w : World} {i : Nat} {L : List Nat} (o : Oper) (ho : ops[i]? = some o) (hw : Region.wanted o (yielded ops a.tmps) = false)
    (hS : ∀ k ∈ L, S k w) (h : wpM P ops Q S r (a.put o.dst undef) w) : wpM P ops Q S (.act i L r) a w := fun o' ho' => by
  rw [ho] at ho'; cases ho'
  rw [if_neg (by rw [hw]; simp)]
  exact ⟨hS, h⟩
theorem m3_alt {r m : Mv} {a : Act} {w : World} {i : Nat} {L : List Nat} (h1 : wpM P ops Q S (.act i L r) a w) (h2 : wpM P ops Q S m a w) : wpM P ops Q S (.alt i L r m) a w := ⟨h1, h2⟩
theorem m3_end {a : Act} {w : World} (h : Q .normal a w) : wpM P ops Q S .fin a w := h
end
end Go.Proofs.Ytnjafdjolfdklaa
