/- Who holds, as the document says it: how he lies in memory; who begins. No statement of the seat is proved here. -/
import Derived.Test.YtnjafdjolfdklaaLzJ
import Derived.Test.YtnjafdjolfdklaaLzD
namespace Go.Proofs.Ytnjafdjolfdklaa
set_option linter.unusedVariables false
set_option linter.unusedSimpArgs false
set_option linter.unusedSectionVars false
open Go.RowKit
variable [Floor]
def hasC (T : List (Option Int)) : Array Value := (T.map fun o => Value.bool o.isSome).toArray
def ticksC (T : List (Option Int)) : Array Value := (T.map fun o => Value.int .i64 (o.getD 0)).toArray
def rhoC (H : HO) (hb tb : Nat) : Array Value := #[.int .u64 H.r, .int .i64 H.n, .int .i64 H.N, .int .i64 H.len, .int .i64 H.bound, .slice (some ⟨hb, 0, none⟩) H.N H.N, .slice (some ⟨tb, 0, none⟩) H.N H.N]
structure IsRHo (w : World) (g : Nat) (H : HO) : Prop where
  ok : H.Ok
  lies : ∃ hb tb, w.heap[g]? = some (.cells (rhoC H hb tb) 78 (0, 0)) ∧ w.heap[hb]? = some (.cells (hasC H.T) 4 (0, 0)) ∧ w.heap[tb]? = some (.cells (ticksC H.T) 2 (0, 0)) ∧ Floor.b ≤ hb ∧ Floor.b ≤ tb
theorem IsRHo.keep {w w' : World} {g : Nat} {H : HO} {M : Nat → Obj → Prop} (h : IsRHo w g H) (hk : Keep M w w') (hM : ∀ k cs t fr, t ∈ [78, 4, 2] → ¬ M k (.cells cs t fr)) : IsRHo w' g H := by
  obtain ⟨hb, tb, h1, h2, h3, h4, h5⟩ := h.lies
  exact ⟨h.ok, hb, tb, hk.block _ _ h1 (hM _ _ _ _ (by simp)), hk.block _ _ h2 (hM _ _ _ _ (by simp)), hk.block _ _ h3 (hM _ _ _ _ (by simp)), h4, h5⟩
theorem hasC_none (N : Nat) : hasC (List.replicate N none) = (List.replicate N (Value.bool false)).toArray := by simp [hasC]
theorem ticksC_none (N : Nat) : ticksC (List.replicate N none) = (List.replicate N (Value.int .i64 0)).toArray := by simp [ticksC]
theorem info_bool : (Try.prog.info? 4).map (fun i => (i.zero, i.size, i.bytes)) = some (some (.bool false), 1, 1) := by kernel_rfl
theorem info_int64 : (Try.prog.info? 2).map (fun i => (i.zero, i.size, i.bytes)) = some (some (.int .i64 0), 1, 8) := by kernel_rfl
theorem run_make_bools (N : Nat) (h : N ≤ 7) (W : World) : (Instr.makeSlice 75 (.int .i64 (N : Int)) (.int .i64 (N : Int))).run Try.prog W = .ok (.slice (some ⟨W.heap.size, 0, none⟩) N N) (W.alloc (.cells (hasC (List.replicate N none)) 4)) := by
  obtain ⟨i, hi, hz0, hz1, hz2⟩ := info_parts info_bool
  have h1 := run_make_rowN (P := Try.prog) 75 4 i _ Try.underlying75 hi hz0 .i64 .i64 N N (Nat.le_refl _) (by rw [hz2]; omega) (by omega) W
  rw [hz1, Nat.mul_one] at h1
  rw [h1, hasC_none, ← madeCells_const (.bool false) 1 N (by decide)]
  rfl
theorem run_make_ticks (N : Nat) (h : N ≤ 7) (W : World) : (Instr.makeSlice 76 (.int .i64 (N : Int)) (.int .i64 (N : Int))).run Try.prog W = .ok (.slice (some ⟨W.heap.size, 0, none⟩) N N) (W.alloc (.cells (ticksC (List.replicate N none)) 2)) := by
  obtain ⟨i, hi, hz0, hz1, hz2⟩ := info_parts info_int64
  have h1 := run_make_rowN (P := Try.prog) 76 2 i _ Try.underlying76 hi hz0 .i64 .i64 N N (Nat.le_refl _) (by rw [hz2]; omega) (by omega) W
  rw [hz1, Nat.mul_one] at h1
  rw [h1, ticksC_none, ← madeCells_const (.int .i64 0) 1 N (by decide)]
  rfl
set_option maxRecDepth 100000 in
theorem rnewHo_no (w : World) (r n N len bound : Int) (h : okH r n N len bound = false) :
    Calls Try.prog 9 #[balV r n, .int .i64 N, .int .i64 len, .int .i64 bound] w fun e w' => e = .returned (.pointer none) ∧ Keep nomod w w' := by
  have Hn := Lib.hid (fun W => rnamed_c W r n)
  unfold balV at *
  cases hn : namedB r n with
  | false =>
    rw [hn] at Hn
    clear hn h
    go_enter Try.func9, Try.ntmps9
    go_wp2_with (go_at_call 28; refine (Hn.out _).mono ?_; rintro e w1 ⟨rfl, hk1⟩)
    go_ret
    exact ⟨rfl, ((Keep.refl nomod w).alloc _).trans hk1⟩
  | true =>
    have ho := okH_no h hn
    rw [hn] at Hn
    clear hn h
    rcases ho with ho | ⟨h1, ho⟩ | ⟨h1, h2, ho⟩ | ⟨h1, h2, h3, ho⟩ | ⟨h1, h2, h3, h4, ho⟩ | ⟨h1, h2, h3, h4, h5, ho⟩
    all_goals
      go_enter Try.func9, Try.ntmps9
      go_wp2_with (go_at_call 28; refine (Hn.out _).mono ?_; rintro e w1 ⟨rfl, hk1⟩)
      go_ret
      exact ⟨rfl, ((Keep.refl nomod w).alloc _).trans hk1⟩
set_option maxRecDepth 100000 in
theorem rnewHo_yes (w : World) (r n : Int) (N : Nat) (len bound : Int) (h : okH r n N len bound = true) (hfl : Floor.b ≤ w.heap.size) :
    Calls Try.prog 9 #[balV r n, .int .i64 N, .int .i64 len, .int .i64 bound] w fun e w' => ∃ g, e = .returned (.pointer (some ⟨g, 0, none⟩)) ∧ IsRHo w' g ⟨r, n, N, len, bound, List.replicate N none⟩ ∧ Keep nomod w w' := by
  have Hn := Lib.hid (fun W => rnamed_c W r n)
  unfold okH at h
  simp only [Bool.and_eq_true, decide_eq_true_eq] at h
  obtain ⟨hn, h1, h2, h3, h4, h5, h6⟩ := h
  rw [hn] at Hn
  unfold balV at *
  clear hn
  have HMB := Lib.hid (fun W => run_make_bools N (by omega) W)
  have HMT := Lib.hid (fun W => run_make_ticks N (by omega) W)
  have hfin : ∀ W, Keep nomod w W → ∀ hb tb g, W.heap[g]? = some (.cells (rhoC ⟨r, n, N, len, bound, List.replicate N none⟩ hb tb) 78 (0, 0)) → W.heap[hb]? = some (.cells (hasC (List.replicate N none)) 4 (0, 0)) → W.heap[tb]? = some (.cells (ticksC (List.replicate N none)) 2 (0, 0)) → w.heap.size ≤ hb → w.heap.size ≤ tb → IsRHo W g ⟨r, n, N, len, bound, List.replicate N none⟩ :=
    fun W hk hb tb g a1 a2 a3 a4 a5 => ⟨⟨by simp, by show 1 ≤ N; omega, by show N ≤ 7; omega, h3, h4, h5, h6, fun i t hi => absurd hi (rep_none N i t)⟩, hb, tb, a1, a2, a3, by omega, by omega⟩
  have HFin := Lib.hid hfin
  clear hfin
  go_enter Try.func9, Try.ntmps9
  go_wp2_with fail
  refine (Hn.out _).mono ?_
  rintro e w1 ⟨rfl, hk1⟩
  have hk := ((Keep.refl nomod w).alloc (.cells #[.int .u64 r, .int .i64 n] 24)).trans hk1
  have b1 := hk1.block _ _ (heap_new w (.cells #[.int .u64 r, .int .i64 n] 24)) (fun e => e)
  have hs := hk.size
  have HK := Lib.hid hk
  have HB := Lib.hid b1
  clear hk1 hk b1
  go_wp2
  have bc0 : w1.drew.cell? ⟨w.heap.size, 0, none⟩ = some (.int .u64 r) := cell_at (i := 0) HB.out rfl
  have bc1 : w1.drew.cell? ⟨w.heap.size, 1, none⟩ = some (.int .i64 n) := cell_at (i := 1) HB.out rfl
  refine wp_region_mv (fun k W => k = 0 → W.cell? ⟨w.heap.size, 0, none⟩ = some (.int .u64 r) ∧ W.cell? ⟨w.heap.size, 1, none⟩ = some (.int .i64 n))
    (.still 0 (.still 1 (.still 2 (.still 3 (.still 4 (.still 6 (.alt 5 [0, 1, 2, 3, 6] (.act 7 [0, 1, 2, 3] (.act 8 [] (.act 9 [] (.act 10 [] (.fin))))) (.act 7 [0, 1, 2, 3, 4] (.act 5 [0, 1, 2, 3] (.act 8 [] (.act 9 [] (.act 10 [] (.fin))))))))))))) (by kernel_rfl) (by kernel_rfl) (by kernel_rfl) (fun _ _ _ _ _ h => h) (fun _ _ => ⟨bc0, bc1⟩) ?_
  iterate 6
    refine m3_still _ _ rfl rfl (by intro W hS; go_simp; first | done | exact rfl) ?_
    simp only [List.getElem_toArray, List.getElem_cons_succ, List.getElem_cons_zero, Act.put, List.setIfInBounds_toArray, List.set_cons_succ, List.set_cons_zero]
  have HB2 : Hid (w1.drew.heap[w.heap.size]? = some (.cells #[.int .u64 r, .int .i64 n] 24 (0, 0))) := Lib.hid HB.out
  have HK2 := Lib.hid HK.out.drew
  have hs2 : w.heap.size ≤ w1.drew.heap.size := HK2.out.size
  have hmb := HMB.out
  have hmt := HMT.out
  clear bc0 bc1 HB HK hs HMB HMT
  generalize w1.drew = w2 at *
  have Z1 := Lib.hid (hasC_none N)
  obtain ⟨hC, hhC⟩ : ∃ hC, hasC (List.replicate N none) = hC := ⟨_, rfl⟩
  obtain ⟨tC, htC⟩ : ∃ tC, ticksC (List.replicate N none) = tC := ⟨_, rfl⟩
  rw [hhC] at hmb
  rw [htC] at hmt
  rw [hhC, htC] at HFin
  clear hhC htC Z1
  refine m3_alt ?_ ?_
  · skip
    refine m3_act _ rfl rfl (fun K hK => ?_)
    simp only [List.getElem_toArray, List.getElem_cons_succ, List.getElem_cons_zero, Act.put, List.setIfInBounds_toArray, List.set_cons_succ, List.set_cons_zero]
    go_simp
    refine hK _ _ (fun k hk hk0 => ⟨cell_at (i := 0) (heap_old HB2.out _) rfl, cell_at (i := 1) (heap_old HB2.out _) rfl⟩) ?_
    clear hK K
    refine m3_act _ rfl rfl (fun K hK => ?_)
    simp only [List.getElem_toArray, List.getElem_cons_succ, List.getElem_cons_zero, Act.put, List.setIfInBounds_toArray, List.set_cons_succ, List.set_cons_zero]
    go_simp
    refine hK _ _ (fun k hk hk0 => ⟨cell_at (i := 0) (heap_old (heap_old HB2.out _) _) rfl, cell_at (i := 1) (heap_old (heap_old HB2.out _) _) rfl⟩) ?_
    clear hK K
    refine m3_act _ rfl rfl (fun K hK => ?_)
    simp only [List.getElem_toArray, List.getElem_cons_succ, List.getElem_cons_zero, Act.put, List.setIfInBounds_toArray, List.set_cons_succ, List.set_cons_zero]
    go_simp
    refine hK _ _ (fun k hk h => (by cases hk)) ?_
    clear hK K
    refine m3_act _ rfl rfl (fun K hK => ?_)
    simp only [List.getElem_toArray, List.getElem_cons_succ, List.getElem_cons_zero, Act.put, List.setIfInBounds_toArray, List.set_cons_succ, List.set_cons_zero]
    go_simp
    refine hK _ _ (fun k hk h => (by cases hk)) ?_
    clear hK K
    refine m3_act _ rfl rfl (fun K hK => ?_)
    simp only [List.getElem_toArray, List.getElem_cons_succ, List.getElem_cons_zero, Act.put, List.setIfInBounds_toArray, List.set_cons_succ, List.set_cons_zero]
    go_simp
    refine hK _ _ (fun k hk h => (by cases hk)) ?_
    clear hK K
    refine m3_end ?_
    go_wp2
    go_ret
    have kk := ((HK2.out.alloc (.cells hC 4)).alloc (.cells tC 2)).alloc (.cells (rhoC ⟨r, n, N, len, bound, List.replicate N none⟩ w2.heap.size (w2.heap.size + 1)) 78)
    exact ⟨_, rfl, HFin.out _ kk w2.heap.size (w2.heap.size + 1) _ (heap_new_at (by simp) _) (heap_old (heap_old (heap_new _ _) _) _) (heap_old (heap_new_at (by simp) _) _) hs2 (by omega), kk⟩
  · skip
    refine m3_act _ rfl rfl (fun K hK => ?_)
    simp only [List.getElem_toArray, List.getElem_cons_succ, List.getElem_cons_zero, Act.put, List.setIfInBounds_toArray, List.set_cons_succ, List.set_cons_zero]
    go_simp
    refine hK _ _ (fun k hk hk0 => ⟨cell_at (i := 0) (heap_old HB2.out _) rfl, cell_at (i := 1) (heap_old HB2.out _) rfl⟩) ?_
    clear hK K
    refine m3_act _ rfl rfl (fun K hK => ?_)
    simp only [List.getElem_toArray, List.getElem_cons_succ, List.getElem_cons_zero, Act.put, List.setIfInBounds_toArray, List.set_cons_succ, List.set_cons_zero]
    go_simp
    refine hK _ _ (fun k hk hk0 => ⟨cell_at (i := 0) (heap_old (heap_old HB2.out _) _) rfl, cell_at (i := 1) (heap_old (heap_old HB2.out _) _) rfl⟩) ?_
    clear hK K
    refine m3_act _ rfl rfl (fun K hK => ?_)
    simp only [List.getElem_toArray, List.getElem_cons_succ, List.getElem_cons_zero, Act.put, List.setIfInBounds_toArray, List.set_cons_succ, List.set_cons_zero]
    go_simp
    refine hK _ _ (fun k hk h => (by cases hk)) ?_
    clear hK K
    refine m3_act _ rfl rfl (fun K hK => ?_)
    simp only [List.getElem_toArray, List.getElem_cons_succ, List.getElem_cons_zero, Act.put, List.setIfInBounds_toArray, List.set_cons_succ, List.set_cons_zero]
    go_simp
    refine hK _ _ (fun k hk h => (by cases hk)) ?_
    clear hK K
    refine m3_act _ rfl rfl (fun K hK => ?_)
    simp only [List.getElem_toArray, List.getElem_cons_succ, List.getElem_cons_zero, Act.put, List.setIfInBounds_toArray, List.set_cons_succ, List.set_cons_zero]
    go_simp
    refine hK _ _ (fun k hk h => (by cases hk)) ?_
    clear hK K
    refine m3_end ?_
    go_wp2
    go_ret
    have kk := ((HK2.out.alloc (.cells tC 2)).alloc (.cells hC 4)).alloc (.cells (rhoC ⟨r, n, N, len, bound, List.replicate N none⟩ (w2.heap.size + 1) w2.heap.size) 78)
    exact ⟨_, rfl, HFin.out _ kk (w2.heap.size + 1) w2.heap.size _ (heap_new_at (by simp) _) (heap_old (heap_new_at (by simp) _) _) (heap_old (heap_old (heap_new _ _) _) _) (by omega) hs2, kk⟩
end Go.Proofs.Ytnjafdjolfdklaa
