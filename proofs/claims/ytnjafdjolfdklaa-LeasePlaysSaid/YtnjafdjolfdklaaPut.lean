/- One cell is stored: what then lies where. No statement of the seat is proved here. -/
import Derived.Test.YtnjafdjolfdklaaMoves2
import Derived.Shelf.Abstract
namespace Go.Proofs.Ytnjafdjolfdklaa
set_option linter.unusedVariables false
set_option linter.unusedSimpArgs false
open Go.RowKit Go.Shelf
theorem run_store1 {P : Program} {w : World} {b i : Nat} {cs : Array Value} {t : TypeId} (ty : TypeId) (v : Value) (hb : w.heap[b]? = some (.cells cs t (0, 0))) (hi : i < cs.size) (h1 : v.oneCell' = true) (hsz : (P.info? ty).map (·.size) = some 1) :
    (Instr.storeAt ty (.pointer (some ⟨b, i, none⟩)) v).run P w = .ok () (w.setCell ⟨b, i, none⟩ v) := by
  have hc : v.cells = #[v] := by cases v <;> first | rfl | (simp [Value.oneCell'] at h1)
  have e : Instr.storeAt ty (.pointer (some ⟨b, i, none⟩)) v = Instr.storeAt ty (.pointer (some ⟨b, i, none⟩)) (.agg #[v]) := by
    unfold Instr.storeAt storeVar
    rw [hc]; rfl
  rw [e, run_storeAt_mid w b i ty #[v] (there_of_block hb (by simp; omega)) hsz (by simpa using h1)]
  rfl
def Put (w W : World) (b i : Nat) (v : Value) : Prop := W = w.setCell ⟨b, i, none⟩ v
theorem Put.same {w W : World} {b i : Nat} {v : Value} (h : Put w W b i v) {cs : Array Value} {t : TypeId} {fr : Nat × Nat} (hb : w.heap[b]? = some (.cells cs t fr)) : W.heap[b]? = some (.cells (cs.setIfInBounds i v) t fr) := by
  unfold Put at h; subst h; exact heap_setCell_block hb v
theorem Put.same1 {w W : World} {b : Nat} {u v : Value} (h : Put w W b 0 v) {t : TypeId} {fr : Nat × Nat} (hb : w.heap[b]? = some (.cells #[u] t fr)) : W.heap[b]? = some (.cells #[v] t fr) := h.same hb
theorem Put.far {w W : World} {b i : Nat} {v : Value} (h : Put w W b i v) {k : Nat} {o : Obj} (hk : w.heap[k]? = some o) (hne : k ≠ b) : W.heap[k]? = some o := by
  unfold Put at h; subst h; exact (heap_setCell_far v hne).trans hk
theorem Put.size {w W : World} {b i : Nat} {v : Value} (h : Put w W b i v) : W.heap.size = w.heap.size := by
  unfold Put at h; subst h; simp [World.setCell]
theorem Put.keep {w W : World} {b i : Nat} {v : Value} (h : Put w W b i v) {M : Nat → Obj → Prop} {a : World} (hk : Keep M a w) (hm : ∀ o, a.heap[b]? = some o → M b o) : Keep M a W := by
  unfold Put at h; subst h; exact hk.setCell hm v
theorem Put.keepNew {w W : World} {b i : Nat} {v : Value} (h : Put w W b i v) {M : Nat → Obj → Prop} {a : World} (hk : Keep M a w) (hm : a.heap.size ≤ b) : Keep M a W := h.keep hk fun _ ho => absurd (heap_lt ho) (by omega)
theorem Put.row {w W : World} {b i : Nat} {v : Value} (h : Put w W b i v) {base : Nat} {e : TypeId} {size : Nat} {u : Value} {n : Nat} {xs : List Value} (ho : w.ownsRow base e size u n xs) {cs : Array Value} {t : TypeId} {fr : Nat × Nat} (hb : w.heap[b]? = some (.cells cs t fr)) (ht : t ≠ e) : W.ownsRow base e size u n xs := by
  unfold Put at h; subst h; exact ownsRow_setCell ho (p := ⟨b, i, none⟩) hb ht v
theorem wp_store1 {P : Program} {o : Oper} {a : Act} {w : World} {K : Act → World → Prop} {Q : Exit → Act → World → Prop} (ty : TypeId) (x y : Operand) (ho : o.op = .store ty x y) (b i : Nat) (hx : a.eval x = .pointer (some ⟨b, i, none⟩)) (v : Value) (hy : a.eval y = v) (h1 : v.oneCell' = true)
    (hsz : (P.info? ty).map (·.size) = some 1) {cs : Array Value} {t : TypeId} (hb : w.heap[b]? = some (.cells cs t (0, 0))) (hi : i < cs.size) (h : ∀ W', Put w W' b i v → K (a.put o.dst undef) W') : o.wp P a w K Q := by
  refine wp_unit (w' := w.setCell ⟨b, i, none⟩ v) ?_ (h _ rfl)
  unfold execOp
  simp only [ho, hx, hy]
  exact exec_u (run_store1 ty v hb hi h1 hsz)
theorem m2_store {P : Program} {ops : Array Oper} {Q : Exit → Act → World → Prop} {S : Nat → World → Prop} {r : List (Oper × Nat × Option (List Nat))} {a : Act} {w : World} {o : Oper} {j : Nat} {L : List Nat} (hw : Region.wanted o (yielded ops a.tmps) = true)
    (ty : TypeId) (x y : Operand) (ho : o.op = .store ty x y) (b i : Nat) (hx : a.eval x = .pointer (some ⟨b, i, none⟩)) (v : Value) (hy : a.eval y = v) (h1 : v.oneCell' = true)
    (hsz : (P.info? ty).map (·.size) = some 1) {cs : Array Value} {t : TypeId} (hb : w.heap[b]? = some (.cells cs t (0, 0))) (hi : i < cs.size) (h : ∀ W', Put w W' b i v → (∀ k ∈ L, S k W') ∧ wpMoves2 P ops Q S r (a.put o.dst undef) W') : wpMoves2 P ops Q S ((o, j, some L) :: r) a w :=
  m2_run hw fun K hK => wp_store1 ty x y ho b i hx v hy h1 hsz hb hi fun W' hp => hK _ _ (h W' hp).1 (h W' hp).2
theorem wide_region_moves2 {P : Program} {ops : Array Oper} {n id : Nat} {K : Act → World → Prop} {Q0 : Exit → Act → World → Prop} {a : Act} {w : World} (S : Nat → World → Prop) (m : List (Nat × Option (List Nat))) (hf : P.follows .mixedOrders = true) (hs : Region.noSelect ops = true)
    (hm : (movesOk2 ops (stills m) m (Array.replicate ops.size false) && (m.length == ops.size)) = true) (hS : ∀ k, S k w.drew) (h : wpMoves2 P ops (Exit.then K (fun _ _ _ => False)) S (movesOps2 ops m) a w.drew) :
    (Code.region id ops true).wpIn Fence.wide n P (Exit.then K Q0) a w :=
  Go.wpIn_mono (wpIn_wide.2 (wp_region_moves2 S m hf hs hm (fun _ _ _ _ _ h => h) hS h)) fun e a w h => by
    cases e <;> first | exact h | exact h.elim
theorem keep_putObj' (W : World) (l : Nat) (o : Obj) : Keep (fun k _ => k = l) W (W.putObj l o) :=
  ⟨rfl, rfl, rfl, by simp, fun k o' hk hn => (World.putObj_heap_other hn).trans hk⟩
theorem run_loadVar1 {P : Program} {w : World} {ad : Addr} {v : Value} {t : TypeId} {d : TypeDesc} (h : P.underlying t = some d) (hd : (match d with | .struct _ | .array _ _ => true | _ => false) = false) (hc : w.cell? ad = some v) : (loadVar t ad).run P w = .ok v w := by
  unfold loadVar
  simp [Sem.run_bind, run_isAgg_plain h hd, Result.andThen, hc]
theorem results_cells3 {P : Program} {fn : Func} {p q r : Tmp} {tp tq tr : TypeId} (h : fn.results = #[.cell p tp, .cell q tq, .cell r tr]) (tmps : Array Value) (w : World) {a b c : Addr} {x y z : Value}
    (ha : tmps.getD p undef = .pointer (some a)) (hb : tmps.getD q undef = .pointer (some b)) (hc : tmps.getD r undef = .pointer (some c))
    (la : (loadVar tp a).run P w = .ok x w) (lb : (loadVar tq b).run P w = .ok y w) (lc : (loadVar tr c).run P w = .ok z w) : (results fn tmps).run P w = .ok (.tuple #[x, y, z]) w := by
  simp only [results, h]
  simp only [Array.getD_eq_getD_getElem?] at ha hb hc
  simp [Sem.run_bind, Result.andThen, ha, hb, hc, asAddr, la, lb, lc]
theorem results_cell1 {P : Program} {fn : Func} {p : Tmp} {tp : TypeId} (h : fn.results = #[.cell p tp]) (tmps : Array Value) (w : World) {a : Addr} {x : Value}
    (ha : tmps.getD p undef = .pointer (some a)) (la : (loadVar tp a).run P w = .ok x w) : (results fn tmps).run P w = .ok x w := by
  simp only [results, h]
  simp only [Array.getD_eq_getD_getElem?] at ha
  simp [Sem.run_bind, Result.andThen, ha, asAddr, la]
end Go.Proofs.Ytnjafdjolfdklaa
