/- A range over a function, where no bound on the calls is kept: what the iterator changes, what a round changes. No statement of the seat is proved here. -/
import Derived.Test.YtnjafdjolfdklaaMoves
import Derived.RangeFuncNested
import Derived.RangeFuncBound
import Derived.RangeFuncCalls
import Derived.RangeFuncLeaves
import Derived.TacticsInMore
import Derived.OwnWalkIn
import Derived.OrdersIn
import Derived.LoopNIn
import Derived.LoopIn
namespace Go.Proofs.Ytnjafdjolfdklaa
set_option linter.unusedVariables false
set_option linter.unusedSimpArgs false
open Go.RowKit
section
variable {P : Program} {ops : Array Oper} {Q : Exit → Act → World → Prop} {n : Nat}
/-- no operation that defers -/
def noDefer (ops : Array Oper) : Bool := ops.all fun o => match o.op with | .defer _ => false | _ => true
theorem noDefer_at (h : noDefer ops = true) {o : Oper} (ho : o ∈ ops) : ∀ c, o.op ≠ .defer c := fun c e => by
  have := Array.all_eq_true_iff_forall_mem.1 h o ho
  simp [e] at this
theorem rowsIn_of {l : Nat} {row : String} {args : Array Value} {w : World} {R : Value → World → Prop} (h : Rows P row args w R) : RowsIn (Fence.wide.inRound l) n P row args w R :=
  fun c cs _ => let ⟨v, w', r, s⟩ := h c cs; ⟨v, w', r, stepsIn_wide.2 s⟩
theorem opIn_of_wp {l : Nat} {o : Oper} {a : Act} {w : World} {K : Act → World → Prop} (hd : ∀ c, o.op ≠ .defer c) (h : o.wp P a w K Q) : o.wpIn (Fence.wide.inRound l) n P a w K Q := by
  refine ⟨fun _ _ => trivial, ?_⟩
  have e : Oper.semAt (Fence.wide.inRound l).round a.eval o = execOp a.eval o := Oper.semAt_some l _ _ hd
  rw [e]
  unfold Oper.wp at h
  generalize (execOp a.eval o).run P w = r at *
  cases r with
  | ok x w' =>
    cases x <;> simp only [Oper.upon, Oper.uponIn] at h ⊢ <;>
      first
        | exact h
        | exact ⟨fun e => (by cases e), CallsIn.inRound l (callsIn_wide.2 h)⟩
        | exact ⟨fun e => (by cases e), rowsIn_of h⟩
  | halt x w' => cases x <;> simp only [Oper.upon, Oper.uponIn] at h ⊢ <;> exact h
theorem wpListIn_of {l : Nat} (hn : ¬ LetsOut Q) : ∀ (rest : List Oper) (a : Act) (w : World), (∀ o ∈ rest, ∀ c, o.op ≠ .defer c) → wpList P ops Q rest a w → wpListIn (Fence.wide.inRound l) n P ops Q rest a w
  | [], _, _, _, h => h
  | o :: rest, a, w, hd, h => by
    unfold wpList at h
    unfold wpListIn
    split
    · rename_i hw
      rw [if_pos hw] at h
      rcases h with h | h
      · exact Oper.wpIn_mono (fun a' w' h' => wpListIn_of hn rest a' w' (fun o ho => hd o (List.mem_cons_of_mem _ ho)) h') (opIn_of_wp (hd o (List.mem_cons_self ..)) h)
      · exact absurd h.2 hn
    · rename_i hw
      rw [if_neg hw] at h
      exact ⟨fun _ _ => trivial, wpListIn_of hn rest _ _ (fun o ho => hd o (List.mem_cons_of_mem _ ho)) h⟩
theorem wpOpIn_of {l : Nat} (hn : ¬ LetsOut Q) (hd : noDefer ops = true) {i : Nat} {K : Act → World → Prop} {a : Act} {w : World} (h : wpOp P ops Q i K a w) : wpOpIn (Fence.wide.inRound l) n P ops Q i K a w := by
  unfold wpOp at h
  unfold wpOpIn
  split
  · rename_i e; simp only [e] at h; exact h
  · rename_i o e
    simp only [e] at h
    split
    · rename_i hw
      rw [if_pos hw] at h
      rcases h with h | h
      · exact opIn_of_wp (noDefer_at hd (Array.mem_of_getElem? e)) h
      · exact absurd h.2 hn
    · rename_i hw
      rw [if_neg hw] at h
      exact ⟨fun _ _ => trivial, h⟩
theorem wpAnyIn_of {l : Nat} (hn : ¬ LetsOut Q) (hd : noDefer ops = true) : ∀ (k : Nat) (li : Array Bool) (a : Act) (w : World), wpAny P .any ops Q k li a w → wpAnyIn (Fence.wide.inRound l) n P .any ops Q k li a w
  | 0, _, _, _, h => h
  | k + 1, _, _, _, h => ⟨h.1, fun i hi => wpOpIn_mono (fun a' w' h' => wpAnyIn_of hn hd k _ a' w' h') (wpOpIn_of hn hd (h.2 i hi))⟩
/-- a region in a round, as elsewhere -/
theorem round_region_lit {l id : Nat} {os : List Oper} {a : Act} {w : World} (hn : ¬ LetsOut Q) (hd : noDefer os.toArray = true) (h : wpList P os.toArray Q os a w) : (Code.region id os.toArray false).wpIn (Fence.wide.inRound l) n P Q a w :=
  wpIn_region_lit (wpListIn_of hn os a w (fun o ho => noDefer_at hd (by simpa using ho)) h)
theorem round_region_moves {l id : Nat} {a : Act} {w : World} (S : World → Prop) (m : List (Nat × Bool)) (hn : ¬ LetsOut Q) (hd : noDefer ops = true) (hf : P.follows .mixedOrders = true) (hs : Region.noSelect ops = true)
    (hm : (movesOk ops m (Array.replicate ops.size false) && lastOk ops m && (m.length == ops.size)) = true) (hQ : ∀ (d : Tmp) (v : Value) c a w, Q (.panic c) (a.put (some d) v) w → Q (.panic c) a w)
    (hS : S w.drew) (h : wpMoves P ops Q S (movesOps ops m) a w.drew) : (Code.region id ops true).wpIn (Fence.wide.inRound l) n P Q a w := by
  simp only [Bool.and_eq_true, beq_iff_eq] at hm
  have h2 := moves_sound hs hQ m _ a w.drew Closed.start hm.1.1 hm.1.2 (.inl hS) h
  rw [hm.2] at h2
  exact wpIn_region_any hf (wpAnyIn_of hn hd _ _ _ _ (wpAny_of_E _ _ _ _ h2))
end
/-- an iterator's contract: xs comes, in order; mi: the blocks that it changes; ok: what it asks of the rounds -/
def SeqW {α : Type} (P : Program) (gf : Nat) (lb : Array Value) (encs : α → Array Value) (xs : List α) (mi : Nat → Prop) (ok : (Nat → Obj → Prop) → Prop) (w0 : World) : Prop :=
  ∀ (l : Nat) (mb : Nat → Obj → Prop) (J : List α → World → Prop) (Jx : List α → World → Prop) (W : World), ok mb → Keep nomod w0 W →
    (∀ pre W W', J pre W → Keep (fun k _ => mi k) W W' → J pre W') → (∀ pre W W', Jx pre W → Keep (fun k _ => mi k) W W' → Jx pre W') →
    (∀ pre x rest W1, xs = pre ++ x :: rest → J pre W1 → YieldAt Fence.wide 3 P l (encs x) W1 fun e W' =>
      (e = .returned (.bool true) ∧ J (pre ++ [x]) W' ∧ Keep mb W1 W') ∨ (e = .returned (.bool false) ∧ Jx (pre ++ [x]) W')) →
    J [] W → Calls P gf (#[.func (.yield l) #[] #[]] ++ lb) W fun e W' => (∃ v, e = .returned v) ∧ (J xs W' ∨ ∃ pre, Jx pre W')
/-- how a round may be left -/
def postW {α : Type} (mb : Nat → Obj → Prop) (I : List α → World → Prop) (Ix : Code → List α → World → Prop) (xs : List α) (W : World) : Exit → Act → World → Prop
  | .normal, _, W' => Keep mb W W' ∧ I xs W'
  | .ret, _, W' => Keep mb W W' ∧ Ix .ret xs W'
  | .exit id, _, W' => Keep mb W W' ∧ Ix (.exit id) xs W'
  | .goto t, _, W' => Keep mb W W' ∧ Ix (.goto t) xs W'
  | .panic _, _, _ => False
  | .outgrown, _, _ => False
theorem postW_noLets {α : Type} {mb : Nat → Obj → Prop} {I : List α → World → Prop} {Ix : Code → List α → World → Prop} {xs : List α} {W : World} : ¬ LetsOut (postW mb I Ix xs W) := fun ⟨_, _, h⟩ => h
/-- a loop's record that was laid at m or later -/
def lr (m : Nat) : Nat → Obj → Prop := fun k o => m ≤ k ∧ ∃ r, o = .loop r
theorem lr_cells {m k : Nat} {cs : Array Value} {t : TypeId} {fr : Nat × Nat} (h : lr m k (.cells cs t fr)) : False := by obtain ⟨_, _, e⟩ := h; cases e
theorem keep_putObj {W : World} {l m : Nat} {r : Loop} (h : W.heap[l]? = some (.loop r)) (hm : m ≤ l) (o : Obj) : Keep (lr m) W (W.putObj l o) :=
  ⟨rfl, rfl, rfl, by simp, fun k o' hk hn => (World.putObj_heap_other (fun e => by subst e; rw [h] at hk; cases hk; exact hn ⟨hm, _, rfl⟩)).trans hk⟩
/-- THE STATEMENT -/
theorem wp_range {α : Type} {P : Program} {g : Operand} {ps : Array Tmp} {assign body : Code} {Q : Exit → Act → World → Prop} {a : Act} {w : World} {n : Nat} (gf : Nat) (lb : Array Value) (hg : a.eval g = .func (.func gf) #[] lb)
    (eg : ∀ args w, (callFunc gf args).run P w = .ok (.enter gf args) w) {encs : α → Array Value} {xs : List α} {mi : Nat → Prop} {ok : (Nat → Obj → Prop) → Prop} (hseq : SeqW P gf lb encs xs mi ok w)
    (hps : ∀ x, (encs x).size = ps.size) (mb : Nat → Obj → Prop) (hok : ok (fun k o => mb k o ∨ lr w.heap.size k o)) (hmi : ∀ k, mi k → k < w.heap.size)
    (hmb : ∀ k o, w.heap.size ≤ k → mb k o → (∃ cs t fr, o = .cells cs t fr)) (I : List α → World → Prop) (Ix : Code → List α → World → Prop)
    (hI : ∀ pre W W', I pre W → Keep (fun k o => mi k ∨ lr w.heap.size k o) W W' → I pre W')
    (hIx : ∀ c pre W W', Ix c pre W → Keep (fun k o => mi k ∨ lr w.heap.size k o) W W' → Ix c pre W')
    (h0 : I [] w)
    (hround : ∀ l pre x rest W, w.heap.size ≤ l → l < W.heap.size → xs = pre ++ x :: rest → I pre W →
      assign.wpIn (Fence.wide.inRound l) 3 P (Exit.then (fun a₁ W₁ => Keep mb W W₁ ∧ ∀ W₂, Keep (lr w.heap.size) W₁ W₂ → W₂.heap.size = W₁.heap.size → body.wpIn (Fence.wide.inRound l) 3 P (postW mb I Ix (pre ++ [x]) W₂) a₁ W₂) (fun _ _ _ => False))
        { tmps := (ps.zip (encs x)).foldl (fun t (p, v) => t.setIfInBounds p v) a.tmps, defers := [] } W)
    (hdone : ∀ (D : Nat) (W : World), w.heap.size ≤ D → I xs W → W.heap[D]? = some (.deferred (some [])) → Q .normal { a with defers := { target := .collected D, args := #[] } :: a.defers } W)
    (hstop : ∀ (D : Nat) (c : Code) (pre : List α) (W : World), w.heap.size ≤ D → Ix c pre W → W.heap[D]? = some (.deferred (some [])) → c.wpIn Fence.wide n P Q { a with defers := { target := .collected D, args := #[] } :: a.defers } W) :
    (Code.rangeFunc g ps assign body).wpIn Fence.wide n P Q a w := by
  refine wpIn_rangeFunc ?_
  intro fn hfn
  have hro : Fence.wide.round = none := rfl
  rw [hro]
  obtain ⟨rec, hrec⟩ : ∃ rec : LoopState → Option Code → Loop, rec = fun st pe => { state := st, pending := pe, fn, tmps := a.tmps, params := ps, assign, body, defers := w.heap.size } := ⟨_, rfl⟩
  obtain ⟨W1, hW1⟩ : ∃ W1, (w.alloc (.deferred (some []))).alloc (.loop (rec .ready none)) = W1 := ⟨_, rfl⟩
  have hL1 : W1.heap[w.heap.size + 1]? = some (.loop (rec .ready none)) := by
    rw [← hW1]; exact heap_new_at (by simp) _
  have hK1 : W1.heap[w.heap.size]? = some (.deferred (some [])) := by
    rw [← hW1]; exact heap_old (heap_new _ _) _
  have hkw : Keep nomod w W1 := by rw [← hW1]; exact ((Keep.refl _ _).alloc _).alloc _
  have hI1 : I [] W1 := hI _ _ _ h0 hkw.of_nomod
  refine ⟨w.heap.size + 1, [{ target := .collected w.heap.size, args := #[] }], W1, { target := .fn (.func gf) lb, args := #[.func (.yield (w.heap.size + 1)) #[] #[]] }, W1, gf,
    #[.func (.yield (w.heap.size + 1)) #[] #[]] ++ lb, W1, ?_, ?_, fun _ _ => trivial, ?_, fun e => (by cases e), callsIn_wide.2 ?_⟩
  · rw [← hW1, hrec]; exact run_enterLoop_outer _ _ _ _ _
  · simp only [resolve, hg]
    simp [go_sem]
  · simp [invoke, go_sem, eg]
  · have hmil : ∀ k, mi k → k ≠ w.heap.size + 1 ∧ k ≠ w.heap.size := fun k h => ⟨fun e => by have := hmi k h; omega, fun e => by have := hmi k h; omega⟩
    refine (hseq (w.heap.size + 1) (fun k o => mb k o ∨ lr w.heap.size k o)
      (fun pre W => I pre W ∧ W.heap[w.heap.size + 1]? = some (.loop (rec .ready none)) ∧ W.heap[w.heap.size]? = some (.deferred (some [])))
      (fun pre W => ∃ c, Ix c pre W ∧ W.heap[w.heap.size + 1]? = some (.loop (rec .done (some c))) ∧ W.heap[w.heap.size]? = some (.deferred (some [])))
      W1 hok hkw
      (fun s A B hs hk => ⟨hI _ _ _ hs.1 (hk.mono fun _ _ e => .inl e), hk.block _ _ hs.2.1 (fun e => (hmil _ e).1 rfl), hk.block _ _ hs.2.2 (fun e => (hmil _ e).2 rfl)⟩)
      (fun s A B hs hk => by
        obtain ⟨c, hc, hl, hd⟩ := hs
        exact ⟨c, hIx _ _ _ _ hc (hk.mono fun _ _ e => .inl e), hk.block _ _ hl (fun e => (hmil _ e).1 rfl), hk.block _ _ hd (fun e => (hmil _ e).2 rfl)⟩)
      ?_ ⟨hI1, hL1, hK1⟩).mono ?_
    · rintro pre x rest W hx ⟨hi, hl, hk⟩
      have hlt : w.heap.size + 1 < W.heap.size := heap_lt hl
      have hy := run_yield (P := P) (args := encs x) hl (by rw [hrec]; exact hps x)
      rw [hrec] at hy
      refine ⟨fn, _, assign, body, hy, roundIn_of_wpIn trivial (Code.wpIn_mono ?_ (hround _ pre x rest W (by omega) hlt hx hi))⟩
      intro e a₁ Wa hp
      cases e with
      | normal =>
        obtain ⟨hka, hb⟩ := hp
        have hla := hka.block _ _ hl (fun e => by obtain ⟨_, _, _, e⟩ := hmb _ _ (by omega) e; cases e)
        have hda := hka.block _ _ hk (fun e => by obtain ⟨_, _, _, e⟩ := hmb _ _ (Nat.le_refl _) e; cases e)
        refine ⟨_, run_beginRound hla (by rw [hrec]), ?_⟩
        have hl2 : (Wa.putObj (w.heap.size + 1) (.loop { rec .ready none with state := .busy })).heap[w.heap.size + 1]? = some (.loop { rec .ready none with state := .busy }) := World.putObj_heap_same (heap_lt hla)
        have hk2 : (Wa.putObj (w.heap.size + 1) (.loop { rec .ready none with state := .busy })).heap[w.heap.size]? = some (.deferred (some [])) := (World.putObj_heap_other (by omega)).trans hda
        have hkb := keep_putObj hla (Nat.le_succ _) (.loop { rec .ready none with state := .busy })
        refine wpIn_mono (hb _ hkb World.putObj_size) ?_
        have fin : ∀ (jump : Option Code) (W3 : World), Keep mb (Wa.putObj (w.heap.size + 1) (.loop { rec .ready none with state := .busy })) W3 →
            (Instr.endRound (w.heap.size + 1) jump).run P W3 = .ok (.bool jump.isNone) (W3.putObj (w.heap.size + 1) (.loop (rec (if jump.isNone then .ready else .done) jump))) ∧
            (W3.putObj (w.heap.size + 1) (.loop (rec (if jump.isNone then .ready else .done) jump))).heap[w.heap.size + 1]? = some (.loop (rec (if jump.isNone then .ready else .done) jump)) ∧
            (W3.putObj (w.heap.size + 1) (.loop (rec (if jump.isNone then .ready else .done) jump))).heap[w.heap.size]? = some (.deferred (some [])) ∧
            Keep (lr w.heap.size) W3 (W3.putObj (w.heap.size + 1) (.loop (rec (if jump.isNone then .ready else .done) jump))) := fun jump W3 hk3 => by
          have hl3 := hk3.block _ _ hl2 (fun e => by obtain ⟨_, _, _, e⟩ := hmb _ _ (by omega) e; cases e)
          have hd3 := hk3.block _ _ hk2 (fun e => by obtain ⟨_, _, _, e⟩ := hmb _ _ (Nat.le_refl _) e; cases e)
          have := run_endRound (P := P) jump hl3
          rw [hrec] at this ⊢
          exact ⟨this, World.putObj_heap_same (heap_lt hl3), (World.putObj_heap_other (by omega)).trans hd3, keep_putObj hl3 (Nat.le_succ _) _⟩
        rintro e a3 W3 hp
        cases e with
        | normal =>
          obtain ⟨hk3, hi3⟩ := hp
          obtain ⟨hr, hl4, hk4, hp4⟩ := fin none W3 hk3
          exact ⟨_, _, hr, .inl ⟨rfl, ⟨hI _ _ _ hi3 (hp4.mono fun _ _ e => .inr e), hl4, hk4⟩,
            (((hka.mono fun _ _ e => .inl e).trans (hkb.mono fun _ _ e => .inr e)).trans (hk3.mono fun _ _ e => .inl e)).trans (hp4.mono fun _ _ e => .inr e)⟩⟩
        | ret =>
          obtain ⟨hk3, hi3⟩ := hp
          obtain ⟨hr, hl4, hk4, hp4⟩ := fin (some .ret) W3 hk3
          exact ⟨_, _, hr, .inr ⟨rfl, .ret, hIx _ _ _ _ hi3 (hp4.mono fun _ _ e => .inr e), hl4, hk4⟩⟩
        | exit id =>
          obtain ⟨hk3, hi3⟩ := hp
          obtain ⟨hr, hl4, hk4, hp4⟩ := fin (some (.exit id)) W3 hk3
          exact ⟨_, _, hr, .inr ⟨rfl, .exit id, hIx _ _ _ _ hi3 (hp4.mono fun _ _ e => .inr e), hl4, hk4⟩⟩
        | goto t =>
          obtain ⟨hk3, hi3⟩ := hp
          obtain ⟨hr, hl4, hk4, hp4⟩ := fin (some (.goto t)) W3 hk3
          exact ⟨_, _, hr, .inr ⟨rfl, .goto t, hIx _ _ _ _ hi3 (hp4.mono fun _ _ e => .inr e), hl4, hk4⟩⟩
        | panic ch => exact hp.elim
        | outgrown => exact hp.elim
      | ret => exact hp.elim
      | exit id => exact hp.elim
      | goto t => exact hp.elim
      | panic ch => exact hp.elim
      | outgrown => exact hp.elim
    · rintro e W2 ⟨⟨v, rfl⟩, (⟨hi, hl, hk⟩ | ⟨pre, c, hi, hl, hk⟩)⟩
      · exact ⟨none, _, by have := run_endLoop (P := P) hl (by rw [hrec]; simp); rw [hrec] at this; exact this, hdone _ _ (Nat.le_refl _) (hI _ _ _ hi ((keep_putObj hl (Nat.le_succ _) _).mono fun _ _ e => .inr e)) ((World.putObj_heap_other (by omega)).trans hk)⟩
      · exact ⟨some c, _, by have := run_endLoop (P := P) hl (by rw [hrec]; simp); rw [hrec] at this; exact this, hstop _ c pre _ (Nat.le_refl _) (hIx _ _ _ _ hi ((keep_putObj hl (Nat.le_succ _) _).mono fun _ _ e => .inr e)) ((World.putObj_heap_other (by omega)).trans hk)⟩
end Go.Proofs.Ytnjafdjolfdklaa
