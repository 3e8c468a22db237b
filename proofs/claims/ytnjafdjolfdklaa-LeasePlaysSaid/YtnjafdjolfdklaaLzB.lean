/- Who lends. No statement of the seat is proved here. -/
import Derived.Test.YtnjafdjolfdklaaLzA
import Derived.Test.YtnjafdjolfdklaaPut
import Derived.Test.YtnjafdjolfdklaaMoves3
import Derived.StillTailTactics
import Derived.Deep.RegionHeld3
import Derived.Deep.DrawnRows
namespace Go.Proofs.Ytnjafdjolfdklaa
set_option linter.unusedVariables false
set_option linter.unusedSimpArgs false
set_option linter.unusedSectionVars false
open Go.RowKit
variable [Floor]
attribute [local go_sem ↓] Go.wp_at_zero Go.wp_at_succ
structure GR where
  len : Int
  r : Int
  n : Int
  until_ : Int
def grC (G : GR) : Array Value := #[.int .i64 G.len, .int .u64 G.r, .int .i64 G.n, .int .i64 G.until_]
def IsGr (T : Nat) (w : World) (g : Nat) (G : GR) : Prop := w.heap[g]? = some (.cells (grC G) T (0, 0))
def okG (len now : Int) : Bool := decide (1 ≤ len ∧ len ≤ 4294967296) && timeB now
def beatW (G : GR) (r n now : Int) : GR × Bool × Int :=
  if (namedB r n && timeB now) = false then (G, false, 2)
  else if r = G.r ∧ n = G.n then ({ G with until_ := max G.until_ (now + G.len) }, true, 0)
  else if now < G.until_ then (G, false, 0)
  else ({ G with r := r, n := n, until_ := now + G.len }, true, 0)
theorem over_c (w : World) (g : Nat) (G : GR) (h : IsGr 70 w g G) (now : Int) :
    Calls Try.prog 35 #[.pointer (some ⟨g, 0, none⟩), .int .i64 now] w fun e w' => e = .returned (.bool (decide (G.until_ ≤ now))) ∧ w = w' := by
  have c3 : w.cell? ⟨g, 3, none⟩ = some (.int .i64 G.until_) := cell_at h rfl
  go_enter Try.func35, Try.ntmps35
  go_wp2
  go_ret
  exact ⟨rfl, rfl⟩
set_option maxRecDepth 100000 in
theorem newGr_no (w : World) (len now : Int) (h : okG len now = false) :
    Calls Try.prog 6 #[.int .i64 len, .int .i64 now] w fun e w' => e = .returned (.tuple #[.pointer none, .int .i64 2]) ∧ w = w' := by
  have H := Lib.hid (time_c w now)
  by_cases h1 : 1 ≤ len
  · by_cases h2 : len ≤ 4294967296
    · have ht : timeB now = false := by simpa [okG, h1, h2] using h
      rw [ht] at H
      clear h ht
      go_enter Try.func6, Try.ntmps6
      go_wp2_with (go_at_call 25; refine H.out.mono ?_; rintro e w' ⟨rfl, rfl⟩)
      go_ret2
      exact ⟨rfl, rfl⟩
    · clear h
      go_enter Try.func6, Try.ntmps6
      go_wp2
      go_ret2
      exact ⟨rfl, rfl⟩
  · clear h
    go_enter Try.func6, Try.ntmps6
    go_wp2
    go_ret2
    exact ⟨rfl, rfl⟩
theorem okG_yes {len now : Int} (h : okG len now = true) : 1 ≤ len ∧ len ≤ 4294967296 ∧ 0 ≤ now ∧ now ≤ 17592186044416 := by
  unfold okG timeB at h
  simp only [Bool.and_eq_true, decide_eq_true_eq] at h
  omega
set_option maxRecDepth 100000 in
theorem newGr_yes (w : World) (len now : Int) (h : okG len now = true) :
    Calls Try.prog 6 #[.int .i64 len, .int .i64 now] w fun e w' => e = .returned (.tuple #[.pointer (some ⟨w.heap.size, 0, none⟩), .int .i64 0]) ∧ w' = w.alloc (.cells (grC ⟨len, 0, 0, now + len⟩) 70) := by
  obtain ⟨h1, h2, h3, h4⟩ := okG_yes h
  have H := Lib.hid (time_c w now)
  have ht : timeB now = true := decide_eq_true ⟨h3, h4⟩
  rw [ht] at H
  clear h ht
  go_enter Try.func6, Try.ntmps6
  go_wp2_with (go_at_call 25; refine H.out.mono ?_; rintro e w' ⟨rfl, rfl⟩)
  go_ret2
  exact ⟨rfl, rfl⟩
theorem cell_set_far {w : World} {b i c j : Nat} {v x : Value} (h : w.cell? ⟨c, j, none⟩ = some x) (hne : c ≠ b ∨ j ≠ i) : (w.setCell ⟨b, i, none⟩ v).cell? ⟨c, j, none⟩ = some x := by
  rw [World.cell?_setCell_other]
  · exact h
  · intro e
    cases e
    rcases hne with e | e <;> exact e rfl
theorem cell_drew {w : World} {p : Addr} {x : Value} (h : w.cell? p = some x) : w.drew.cell? p = some x := h
theorem IsGr.set3 {T : Nat} {w : World} {g : Nat} {L r n U : Int} (h : IsGr T w g ⟨L, r, n, U⟩) (V : Int) : IsGr T (w.setCell ⟨g, 3, none⟩ (.int .i64 V)) g ⟨L, r, n, V⟩ := heap_setCell_block h _
theorem IsGr.set1 {T : Nat} {w : World} {g : Nat} {L r n U : Int} (h : IsGr T w g ⟨L, r, n, U⟩) (V : Int) : IsGr T (w.setCell ⟨g, 1, none⟩ (.int .u64 V)) g ⟨L, V, n, U⟩ := heap_setCell_block h _
theorem IsGr.set2 {T : Nat} {w : World} {g : Nat} {L r n U : Int} (h : IsGr T w g ⟨L, r, n, U⟩) (V : Int) : IsGr T (w.setCell ⟨g, 2, none⟩ (.int .i64 V)) g ⟨L, r, V, U⟩ := heap_setCell_block h _
theorem Keep.gr {T : Nat} {a w : World} {g : Nat} {G : GR} (h : Keep (mods [T]) a w) (hg : IsGr T w g G) (hfl : Floor.b ≤ g) (i : Nat) (v : Value) : Keep (mods [T]) a (w.setCell ⟨g, i, none⟩ v) := h.setCell_mods (p := ⟨g, i, none⟩) hg (List.mem_singleton.2 rfl) hfl v
def beatP (T : Nat) (w : World) (g : Nat) (R : GR × Bool × Int) (e : Ending) (w' : World) : Prop :=
  e = .returned (.tuple #[.bool R.2.1, .int .i64 R.2.2]) ∧ IsGr T w' g R.1 ∧ Keep (mods [T]) w w'
set_option maxRecDepth 100000 in
theorem beat_same (w : World) (g : Nat) (L R N U : Int) (h : IsGr 70 w g ⟨L, R, N, U⟩) (hfl : Floor.b ≤ g) (r n now : Int) (hn : namedB r n = true) (ht : timeB now = true) (h1 : 0 ≤ L) (h2 : L ≤ 4294967296) (hr : r = R) (hnn : n = N) :
    Calls Try.prog 16 #[.pointer (some ⟨g, 0, none⟩), balV r n, .int .i64 now] w fun e w' => beatP 70 w g (⟨L, R, N, max U (now + L)⟩, true, 0) e w' := by
  subst hr hnn
  have hb : 0 ≤ now ∧ now ≤ 17592186044416 := by simpa [timeB] using ht
  have Hn := Lib.hid (fun W => named_c W r n)
  have Ht := Lib.hid (fun W => time_c W now)
  rw [hn] at Hn
  rw [ht] at Ht
  have hw := wrap_in (now + L) (by omega)
  unfold balV at *
  clear hn ht
  have HG := Lib.hid h
  go_enter Try.func16, Try.ntmps16
  go_wp2_with fail
  refine (Hn.out _).mono ?_
  rintro e w1 ⟨rfl, hk1⟩
  have hk := ((Keep.refl nomod w).alloc (.cells #[.int .u64 r, .int .i64 n] 24)).trans hk1
  have b1 := hk1.block _ _ (heap_new w (.cells #[.int .u64 r, .int .i64 n] 24)) (fun e => e)
  have bc0 := cell_at (i := 0) b1 rfl
  have bc1 := cell_at (i := 1) b1 rfl
  have HB := Lib.hid b1
  have hG1 : IsGr 70 w1 g ⟨L, r, n, U⟩ := hk.block _ _ HG.out (fun e => e)
  have g1 : w1.cell? ⟨g, 1, none⟩ = some (.int .u64 r) := cell_at hG1 rfl
  have g2 : w1.cell? ⟨g, 2, none⟩ = some (.int .i64 n) := cell_at hG1 rfl
  have HG1 := Lib.hid hG1
  have HK := Lib.hid hk
  clear hG1 hk hk1 b1 h
  go_wp2_with (go_at_call 25; refine (Ht.out _).mono ?_; rintro e w' ⟨rfl, rfl⟩)
  go_quiet (fail)
  go_wp2
  have hG2 : IsGr 70 (w1.drewN nq) g ⟨L, r, n, U⟩ := HG1.out
  have hk2 : Keep nomod w (w1.drewN nq) := HK.out.drewN _
  have hb2 : (w1.drewN nq).heap[w.heap.size]? = some (.cells #[.int .u64 r, .int .i64 n] 24 (0, 0)) := HB.out
  clear g1 g2 bc0 bc1 HG1 HK HB
  generalize w1.drewN nq = w2 at *
  have bc0 := cell_at (i := 0) hb2 rfl
  have bc1 := cell_at (i := 1) hb2 rfl
  have g0 : w2.cell? ⟨g, 0, none⟩ = some (.int .i64 L) := cell_at hG2 rfl
  have g3 : w2.cell? ⟨g, 3, none⟩ = some (.int .i64 U) := cell_at hG2 rfl
  have f3 : w2.frozen? ⟨g, 3, none⟩ = false := frozen_at hG2 3
  have HG2 := Lib.hid hG2
  have HK2 := Lib.hid hk2
  have HB2 := Lib.hid hb2
  clear hG2 hk2 hb2
  go_still_tail 14, (by kernel_rfl)
  change wpList _ _ _ _ _ w2.drew
  have hG3 : IsGr 70 w2.drew g ⟨L, r, n, U⟩ := HG2.out
  have hk3 : Keep nomod w w2.drew := HK2.out.drew
  clear g0 g3 f3 HG2 HK2 bc0 bc1 HB2
  generalize w2.drew = w3 at *
  have g3 : w3.cell? ⟨g, 3, none⟩ = some (.int .i64 U) := cell_at hG3 rfl
  have f3 : w3.frozen? ⟨g, 3, none⟩ = false := frozen_at hG3 3
  have HG3 := Lib.hid hG3
  have HK3 := Lib.hid hk3
  clear hG3 hk3
  by_cases hm : U < now + L
  · have E := Lib.hid (show max U (now + L) = now + L by omega)
    go_wp2
    go_ret2
    exact ⟨rfl, by rw [E.out]; exact HG3.out.set3 _, HK3.out.of_nomod.gr HG3.out hfl _ _⟩
  · have E := Lib.hid (show max U (now + L) = U by omega)
    go_wp2
    go_ret2
    exact ⟨rfl, by rw [E.out]; exact HG3.out.set3 _, HK3.out.of_nomod.gr HG3.out hfl _ _⟩
set_option maxRecDepth 100000 in
theorem beat_wait (w : World) (g : Nat) (L R N U : Int) (h : IsGr 70 w g ⟨L, R, N, U⟩) (hfl : Floor.b ≤ g) (r n now : Int) (hn : namedB r n = true) (ht : timeB now = true) (h1 : 0 ≤ L) (h2 : L ≤ 4294967296) (hne : ¬ (r = R ∧ n = N)) (hlt : now < U) :
    Calls Try.prog 16 #[.pointer (some ⟨g, 0, none⟩), balV r n, .int .i64 now] w fun e w' => beatP 70 w g (⟨L, R, N, U⟩, false, 0) e w' := by
  have HO := Lib.hid (fun W h => over_c W g ⟨L, R, N, U⟩ h now)
  rw [show decide (U ≤ now) = false from decide_eq_false (by omega)] at HO
  have hq := fun W => run_eql_bal W r n R N
  rw [show eqB r n R N = false from decide_eq_false hne] at hq
  have hb : 0 ≤ now ∧ now ≤ 17592186044416 := by simpa [timeB] using ht
  have Hn := Lib.hid (fun W => named_c W r n)
  have Ht := Lib.hid (fun W => time_c W now)
  rw [hn] at Hn
  rw [ht] at Ht
  have hw := wrap_in (now + L) (by omega)
  unfold balV at *
  clear hn ht
  have HG := Lib.hid h
  go_enter Try.func16, Try.ntmps16
  go_wp2_with fail
  refine (Hn.out _).mono ?_
  rintro e w1 ⟨rfl, hk1⟩
  have hk := ((Keep.refl nomod w).alloc (.cells #[.int .u64 r, .int .i64 n] 24)).trans hk1
  have b1 := hk1.block _ _ (heap_new w (.cells #[.int .u64 r, .int .i64 n] 24)) (fun e => e)
  have bc0 := cell_at (i := 0) b1 rfl
  have bc1 := cell_at (i := 1) b1 rfl
  have HB := Lib.hid b1
  have hG1 : IsGr 70 w1 g ⟨L, R, N, U⟩ := hk.block _ _ HG.out (fun e => e)
  have g1 : w1.cell? ⟨g, 1, none⟩ = some (.int .u64 R) := cell_at hG1 rfl
  have g2 : w1.cell? ⟨g, 2, none⟩ = some (.int .i64 N) := cell_at hG1 rfl
  have HG1 := Lib.hid hG1
  have HK := Lib.hid hk
  clear hG1 hk hk1 b1 h
  go_wp2_with (go_at_call 25; refine (Ht.out _).mono ?_; rintro e w' ⟨rfl, rfl⟩)
  go_quiet (fail)
  go_wp2_with fail
  refine (HO.out _ (show IsGr 70 (w1.drewN nq) g ⟨L, R, N, U⟩ from HG1.out)).mono ?_
  rintro e w' ⟨rfl, rfl⟩
  go_wp2
  go_ret2
  exact ⟨rfl, HG1.out, (HK.out.drewN _).of_nomod⟩
set_option maxRecDepth 100000 in
set_option maxHeartbeats 400000 in
theorem beat_new (w : World) (g : Nat) (L R N U : Int) (h : IsGr 70 w g ⟨L, R, N, U⟩) (hfl : Floor.b ≤ g) (r n now : Int) (hn : namedB r n = true) (ht : timeB now = true) (h1 : 0 ≤ L) (h2 : L ≤ 4294967296) (hne : ¬ (r = R ∧ n = N)) (hlt : ¬ now < U) :
    Calls Try.prog 16 #[.pointer (some ⟨g, 0, none⟩), balV r n, .int .i64 now] w fun e w' => beatP 70 w g (⟨L, r, n, now + L⟩, true, 0) e w' := by
  have HO := Lib.hid (fun W h => over_c W g ⟨L, R, N, U⟩ h now)
  rw [show decide (U ≤ now) = true from decide_eq_true (by omega)] at HO
  have hq := fun W => run_eql_bal W r n R N
  rw [show eqB r n R N = false from decide_eq_false hne] at hq
  have hb : 0 ≤ now ∧ now ≤ 17592186044416 := by simpa [timeB] using ht
  have Hn := Lib.hid (fun W => named_c W r n)
  have Ht := Lib.hid (fun W => time_c W now)
  rw [hn] at Hn
  rw [ht] at Ht
  have hw := wrap_in (now + L) (by omega)
  unfold balV at *
  clear hn ht
  have HG := Lib.hid h
  go_enter Try.func16, Try.ntmps16
  go_wp2_with fail
  refine (Hn.out _).mono ?_
  rintro e w1 ⟨rfl, hk1⟩
  have hk := ((Keep.refl nomod w).alloc (.cells #[.int .u64 r, .int .i64 n] 24)).trans hk1
  have b1 := hk1.block _ _ (heap_new w (.cells #[.int .u64 r, .int .i64 n] 24)) (fun e => e)
  have bc0 := cell_at (i := 0) b1 rfl
  have bc1 := cell_at (i := 1) b1 rfl
  have HB := Lib.hid b1
  have hG1 : IsGr 70 w1 g ⟨L, R, N, U⟩ := hk.block _ _ HG.out (fun e => e)
  have g1 : w1.cell? ⟨g, 1, none⟩ = some (.int .u64 R) := cell_at hG1 rfl
  have g2 : w1.cell? ⟨g, 2, none⟩ = some (.int .i64 N) := cell_at hG1 rfl
  have HG1 := Lib.hid hG1
  have HK := Lib.hid hk
  clear hG1 hk hk1 b1 h
  go_wp2_with (go_at_call 25; refine (Ht.out _).mono ?_; rintro e w' ⟨rfl, rfl⟩)
  go_quiet (fail)
  go_wp2_with fail
  refine (HO.out _ (show IsGr 70 (w1.drewN nq) g ⟨L, R, N, U⟩ from HG1.out)).mono ?_
  rintro e w' ⟨rfl, rfl⟩
  have hG2 : IsGr 70 (w1.drewN nq) g ⟨L, R, N, U⟩ := HG1.out
  have hk2 : Keep nomod w (w1.drewN nq) := HK.out.drewN _
  have hb2 : (w1.drewN nq).heap[w.heap.size]? = some (.cells #[.int .u64 r, .int .i64 n] 24 (0, 0)) := HB.out
  clear g1 g2 bc0 bc1 HG1 HK HB
  generalize w1.drewN nq = w2 at *
  have bc0 := cell_at (i := 0) hb2 rfl
  have bc1 := cell_at (i := 1) hb2 rfl
  have g0 : w2.cell? ⟨g, 0, none⟩ = some (.int .i64 L) := cell_at hG2 rfl
  have f1 : w2.frozen? ⟨g, 1, none⟩ = false := frozen_at hG2 1
  have f2 : w2.frozen? ⟨g, 2, none⟩ = false := frozen_at hG2 2
  have f3 : w2.frozen? ⟨g, 3, none⟩ = false := frozen_at hG2 3
  have g1 : w2.cell? ⟨g, 1, none⟩ = some (.int .u64 R) := cell_at hG2 rfl
  have g2 : w2.cell? ⟨g, 2, none⟩ = some (.int .i64 N) := cell_at hG2 rfl
  have g3 : w2.cell? ⟨g, 3, none⟩ = some (.int .i64 U) := cell_at hG2 rfl
  have HG2 := Lib.hid hG2
  have HK2 := Lib.hid hk2
  have HB2 := Lib.hid hb2
  have hgb : g ≠ w.heap.size := fun e => by have := heap_lt HG.out; omega
  have hbg : w.heap.size ≠ g := fun e => hgb e.symm
  clear hG2 hk2 hb2
  go_wp2
  refine wp_region_mv (fun k W => (k = 2 ∨ k = 7) → W.cell? ⟨w.heap.size, 0, none⟩ = some (.int .u64 r) ∧ W.cell? ⟨w.heap.size, 1, none⟩ = some (.int .i64 n) ∧ W.cell? ⟨g, 0, none⟩ = some (.int .i64 L))
    (.still 0 (.still 1 (.still 2 (.still 3 (.still 4 (.still 5 (.still 6 (.still 7 (.still 8 (.still 9 (.still 10 (.act 11 [1, 3, 8, 12, 13] (.still 12 (.still 13 (.act 14 [] (.fin)))))))))))))))) (by kernel_rfl) (by kernel_rfl) (by kernel_rfl) (fun _ _ _ _ _ h => h) (fun _ _ => ⟨bc0, bc1, g0⟩) ?_
  iterate 11
    refine m3_still _ _ rfl rfl (by intro W hS; go_simp; first | done | exact rfl) ?_
    simp only [List.getElem_toArray, List.getElem_cons_succ, List.getElem_cons_zero, Act.put, List.setIfInBounds_toArray, List.set_cons_succ, List.set_cons_zero]
  have hG3 : IsGr 70 w2.drew g ⟨L, R, N, U⟩ := HG2.out
  have hk3 : Keep nomod w w2.drew := HK2.out.drew
  clear g0 g1 g2 g3 f1 f2 f3 HG2 HK2 bc0 bc1 HB2 hq
  generalize w2.drew = w3 at *
  have f1 : w3.frozen? ⟨g, 1, none⟩ = false := frozen_at hG3 1
  have f2 : w3.frozen? ⟨g, 2, none⟩ = false := frozen_at hG3 2
  have g1 : w3.cell? ⟨g, 1, none⟩ = some (.int .u64 R) := cell_at hG3 rfl
  have g2 : w3.cell? ⟨g, 2, none⟩ = some (.int .i64 N) := cell_at hG3 rfl
  have HG3 := Lib.hid hG3
  have HK3 := Lib.hid hk3
  clear hG3 hk3
  refine m3_act _ rfl rfl (fun K hK => ?_)
  simp only [List.getElem_toArray, List.getElem_cons_succ, List.getElem_cons_zero, Act.put, List.setIfInBounds_toArray, List.set_cons_succ, List.set_cons_zero]
  go_simp
  refine hK _ _ (fun k hk h => by simp at hk; omega) ?_
  clear hK K
  have hG4 := (HG3.out.set1 r).set2 n
  have hk4 : Keep (mods [70]) w ((w3.setCell ⟨g, 1, none⟩ (.int .u64 r)).setCell ⟨g, 2, none⟩ (.int .i64 n)) := (HK3.out.of_nomod.gr HG3.out hfl _ _).gr (HG3.out.set1 r) hfl _ _
  clear f1 f2 g1 g2
  generalize (w3.setCell ⟨g, 1, none⟩ (.int .u64 r)).setCell ⟨g, 2, none⟩ (.int .i64 n) = w4 at *
  have f3 : w4.frozen? ⟨g, 3, none⟩ = false := frozen_at hG4 3
  have g3 : w4.cell? ⟨g, 3, none⟩ = some (.int .i64 U) := cell_at hG4 rfl
  have HG4 := Lib.hid hG4
  have HK4 := Lib.hid hk4
  clear hG4 hk4
  iterate 2
    refine m3_still _ _ rfl rfl (by intro W hS; go_simp; first | done | exact rfl) ?_
    simp only [List.getElem_toArray, List.getElem_cons_succ, List.getElem_cons_zero, Act.put, List.setIfInBounds_toArray, List.set_cons_succ, List.set_cons_zero]
  refine m3_act _ rfl rfl (fun K hK => ?_)
  simp only [List.getElem_toArray, List.getElem_cons_succ, List.getElem_cons_zero, Act.put, List.setIfInBounds_toArray, List.set_cons_succ, List.set_cons_zero]
  go_simp
  refine hK _ _ (fun k hk h => (by cases hk)) ?_
  clear hK K
  refine m3_end ?_
  go_wp2
  go_ret2
  exact ⟨rfl, HG4.out.set3 _, HK4.out.gr HG4.out hfl _ _⟩
theorem beat_bad (w : World) (g : Nat) (G : GR) (h : IsGr 70 w g G) (r n now : Int) (hb : (namedB r n && timeB now) = false) :
    Calls Try.prog 16 #[.pointer (some ⟨g, 0, none⟩), balV r n, .int .i64 now] w fun e w' => beatP 70 w g (G, false, 2) e w' := by
  have Hn := Lib.hid (fun W => named_c W r n)
  have Ht := Lib.hid (fun W => time_c W now)
  have HG := Lib.hid h
  cases hn : namedB r n with
  | false =>
    rw [hn] at Hn
    unfold balV at *
    clear hn hb h
    go_enter Try.func16, Try.ntmps16
    go_wp2_with (go_at_call 27; refine (Hn.out _).mono ?_; rintro e w1 ⟨rfl, hk1⟩)
    go_ret2
    have hk := ((Keep.refl nomod w).alloc (.cells #[.int .u64 r, .int .i64 n] 24)).trans hk1
    exact ⟨rfl, hk.block _ _ HG.out (fun e => e), hk.of_nomod⟩
  | true =>
    have ht : timeB now = false := by rw [hn] at hb; exact hb
    rw [hn] at Hn
    rw [ht] at Ht
    unfold balV at *
    clear hn hb h ht
    go_enter Try.func16, Try.ntmps16
    go_wp2_with (first
      | (go_at_call 27; refine (Hn.out _).mono ?_; rintro e w1 ⟨rfl, hk1⟩)
      | (go_at_call 25; refine (Ht.out _).mono ?_; rintro e w' ⟨rfl, rfl⟩))
    go_ret2
    have hk := ((Keep.refl nomod w).alloc (.cells #[.int .u64 r, .int .i64 n] 24)).trans hk1
    exact ⟨rfl, hk.block _ _ HG.out (fun e => e), hk.of_nomod⟩
theorem beat_c (w : World) (g : Nat) (G : GR) (h : IsGr 70 w g G) (hfl : Floor.b ≤ g) (r n now : Int) (h1 : 0 ≤ G.len) (h2 : G.len ≤ 4294967296) :
    Calls Try.prog 16 #[.pointer (some ⟨g, 0, none⟩), balV r n, .int .i64 now] w fun e w' => beatP 70 w g (beatW G r n now) e w' := by
  obtain ⟨L, R, N, U⟩ := G
  unfold beatW
  by_cases hb : (namedB r n && timeB now) = false
  · rw [if_pos hb]
    exact beat_bad w g _ h r n now hb
  · rw [if_neg hb]
    have hb' : namedB r n = true ∧ timeB now = true := by simpa using hb
    by_cases he : r = R ∧ n = N
    · rw [if_pos he]
      exact beat_same w g L R N U h hfl r n now hb'.1 hb'.2 h1 h2 he.1 he.2
    · rw [if_neg he]
      by_cases hlt : now < U
      · rw [if_pos hlt]
        exact beat_wait w g L R N U h hfl r n now hb'.1 hb'.2 h1 h2 he hlt
      · rw [if_neg hlt]
        exact beat_new w g L R N U h hfl r n now hb'.1 hb'.2 h1 h2 he hlt
end Go.Proofs.Ytnjafdjolfdklaa
