/- The log, part 9: Append. -/
import Derived.Test.YtimfgeklnlnniaaWal8
namespace Go.Proofs.Ytimfgeklnlnniaa
set_option linter.unusedVariables false
set_option linter.unusedSimpArgs false
open Go.RowKit Go.Shelf
set_option linter.unusedSectionVars false
variable [Floor]
attribute [local go_sem] Oper.semAt_some ba_append
abbrev logT : List Nat := 68 :: diskT
/-- Append: the disk, the log, the error -/
def appendW (D : DK) (G : LG) (n : Nat) (t : Bs) : DK × LG × Int :=
  if G.broken then (D, G, 3)
  else if (frame1 t).2 ≠ 0 then (D, G, (frame1 t).2)
  else if (n : Int) * 255 - G.s.length < (frame1 t).1.length then (D, G, 6)
  else
    let p := writesK D (shiftL G.frm (diffs (laidB G.s) (laidB (G.s ++ (frame1 t).1)) n))
    if p.2 ≠ 0 then (p.1, { G with broken := true }, p.2) else (p.1, { G with s := G.s ++ (frame1 t).1 }, 0)
def appP (w : World) (g : Nat) (R : DK × LG × Int) (e : Ending) (w' : World) : Prop :=
  e = .returned (.int .i64 R.2.2) ∧ IsDisk w' R.2.1.b R.1 ∧ IsLog w' g R.2.1 ∧ Keep (mods logT) w w'
theorem app_leave {W : World} {a : Act} {tm : Array Value} {R : Ending → World → Prop} {bx : Nat} {e : Int} (ha : a.tmps = tm) (hd : a.defers = []) (ht : tm.getD 4 undef = .pointer (some ⟨bx, 0, none⟩)) (hb : W.heap[bx]? = some (.cells #[.int .i64 e] 25 (0, 0)))
    (h : R (.returned (.int .i64 e)) W) : bodyPostM Fence.wide 5 Try.prog Try.f8 R .ret a W := by
  show LeavesInM _ _ _ _ _ _ _ _ _
  rw [hd]
  subst ha
  exact ⟨_, results_cell1 rfl _ _ ht (run_loadVar1 Try.underlying25 rfl (cell_at (i := 0) hb rfl)), h⟩
def shut (k0 : Nat) : Nat → Obj → Prop := fun k o => k = k0 ∧ ∃ d, o = .deferred d
theorem shut_cells {k0 k : Nat} {cs : Array Value} {t : TypeId} {fr : Nat × Nat} : ¬ shut k0 k (.cells cs t fr) := fun e => by obtain ⟨_, _, e⟩ := e; cases e
theorem app_leaveM {W : World} {a : Act} {tm : Array Value} {R : Ending → World → Prop} {bx Dd : Nat} {e : Int} (ha : a.tmps = tm) (hd : a.defers = [{ target := .collected Dd, args := #[] }]) (ht : tm.getD 4 undef = .pointer (some ⟨bx, 0, none⟩)) (hb : W.heap[bx]? = some (.cells #[.int .i64 e] 25 (0, 0)))
    (hK : W.heap[Dd]? = some (.deferred (some []))) (h : ∀ W', Keep (shut Dd) W W' → R (.returned (.int .i64 e)) W') : bodyPostM Fence.wide 5 Try.prog Try.f8 R .ret a W := by
  show LeavesInM _ _ _ _ _ _ _ _ _
  rw [hd]
  refine ⟨by simp, .inl ⟨_, _, rfl, run_takeDeferred hK, ?_⟩⟩
  have hp : Keep (shut Dd) W (W.putObj Dd (.deferred none)) :=
    ⟨rfl, rfl, rfl, by simp, fun k o hk hn => (World.putObj_heap_other (fun e => hn ⟨e, by subst e; rw [hK] at hk; cases hk; exact ⟨_, rfl⟩⟩)).trans hk⟩
  have h' := h _ hp
  have hb' := hp.block _ _ hb shut_cells
  generalize W.putObj Dd (.deferred none) = W' at *
  subst ha
  exact ⟨_, results_cell1 rfl _ _ ht (run_loadVar1 Try.underlying25 rfl (cell_at (i := 0) hb' rfl)), h'⟩
theorem append_nil (w : World) (t : ByteArray) : Calls Try.prog 8 #[.pointer none, .string t] w fun e w' => e = .returned (.int .i64 1) ∧ Keep nomod w w' := by
  refine (callsIn_wide (n := 5)).1 ?_
  refine callsIn_of_wp_marks Try.func8 rfl trivial ?_
  simp only [Try.ntmps8, List.size_toArray, List.length_cons, List.length_nil, Nat.reduceAdd, Nat.reduceSub, Array.replicate_succ, Array.replicate_zero, List.push_toArray, List.append_toArray, List.nil_append, List.cons_append]
  gi_wp2_with (refine ⟨trivial, ?_⟩; gi_at_call 30; refine (callsIn_wide.2 (lnone_nil _)).mono ?_; rintro e w' ⟨rfl, rfl⟩)
  exact app_leave (bx := w.heap.size + 1) rfl rfl rfl (heap_new_at (by simp) _) ⟨rfl, ((Keep.refl _ _).alloc _).alloc _⟩
theorem IsLog.keep {w w' : World} {g : Nat} {G : LG} {M : Nat → Obj → Prop} (h : IsLog w g G) (hk : Keep M w w') (hM : ∀ cs fr, ¬ M g (.cells cs 68 fr)) : IsLog w' g G := hk.block _ _ h (hM _ _)
set_option maxRecDepth 100000 in
set_option maxHeartbeats 1000000 in
theorem append_broken (w : World) (g : Nat) (G : LG) (D : DK) (h : IsLog w g G) (hD : IsDisk w G.b D) (t : Bs) (hbr : G.broken = true) :
    Calls Try.prog 8 #[.pointer (some ⟨g, 0, none⟩), .string ⟨t.toArray⟩] w fun e w' => appP w g (D, G, 3) e w' := by
  have H := Lib.hid (fun W h => lnone_log W g G h)
  have hW : ∀ v o, IsLog ((w.alloc v).alloc o) g G := fun v o => heap_old (heap_old h _) _
  have hc := fun v o => (hW v o).c4
  rw [hbr] at hc
  have HW := Lib.hid hW
  clear hW h
  refine (callsIn_wide (n := 5)).1 ?_
  refine callsIn_of_wp_marks Try.func8 rfl trivial ?_
  simp only [Try.ntmps8, List.size_toArray, List.length_cons, List.length_nil, Nat.reduceAdd, Nat.reduceSub, Array.replicate_succ, Array.replicate_zero, List.push_toArray, List.append_toArray, List.nil_append, List.cons_append]
  gi_wp2_with (refine ⟨trivial, ?_⟩; gi_at_call 30; refine (callsIn_wide.2 (H.out _ (HW.out _ _))).mono ?_; rintro e w' ⟨rfl, rfl⟩)
  exact app_leave (bx := w.heap.size + 1) rfl rfl rfl (heap_new_at (by simp) _) ⟨rfl, hD.keepM (((Keep.refl nomod _).alloc _).alloc _) (fun _ _ _ _ _ e => e), HW.out _ _, ((Keep.refl _ _).alloc _).alloc _⟩
end Go.Proofs.Ytimfgeklnlnniaa
