/- Who lends, as the document says it. No statement of the seat is proved here. -/
import Derived.Test.YtnjafdjolfdklaaLzB
namespace Go.Proofs.Ytnjafdjolfdklaa
set_option linter.unusedVariables false
set_option linter.unusedSimpArgs false
set_option linter.unusedSectionVars false
open Go.RowKit
variable [Floor]
set_option maxRecDepth 100000 in
theorem rbeat_same (w : World) (g : Nat) (L R N U : Int) (h : IsGr 51 w g ⟨L, R, N, U⟩) (hfl : Floor.b ≤ g) (r n now : Int) (hn : namedB r n = true) (ht : timeB now = true) (h1 : 0 ≤ L) (h2 : L ≤ 4294967296) (hr : r = R) (hnn : n = N) :
    Calls Try.prog 17 #[.pointer (some ⟨g, 0, none⟩), balV r n, .int .i64 now] w fun e w' => beatP 51 w g (⟨L, R, N, max U (now + L)⟩, true, 0) e w' := by
  subst hr hnn
  have hb : 0 ≤ now ∧ now ≤ 17592186044416 := by simpa [timeB] using ht
  have Hn := Lib.hid (fun W => rnamed_c W r n)
  have Ht := Lib.hid (fun W => rtime_c W now)
  rw [hn] at Hn
  rw [ht] at Ht
  have hw := wrap_in (now + L) (by omega)
  unfold balV at *
  clear hn ht
  have HG := Lib.hid h
  go_enter Try.func17, Try.ntmps17
  go_wp2_with fail
  refine (Hn.out _).mono ?_
  rintro e w1 ⟨rfl, hk1⟩
  have hk := ((Keep.refl nomod w).alloc (.cells #[.int .u64 r, .int .i64 n] 24)).trans hk1
  have b1 := hk1.block _ _ (heap_new w (.cells #[.int .u64 r, .int .i64 n] 24)) (fun e => e)
  have bc0 := cell_at (i := 0) b1 rfl
  have bc1 := cell_at (i := 1) b1 rfl
  have HB := Lib.hid b1
  have hG1 : IsGr 51 w1 g ⟨L, r, n, U⟩ := hk.block _ _ HG.out (fun e => e)
  have g1 : w1.cell? ⟨g, 1, none⟩ = some (.int .u64 r) := cell_at hG1 rfl
  have g2 : w1.cell? ⟨g, 2, none⟩ = some (.int .i64 n) := cell_at hG1 rfl
  have HG1 := Lib.hid hG1
  have HK := Lib.hid hk
  clear hG1 hk hk1 b1 h
  go_wp2_with (go_at_call 26; refine (Ht.out _).mono ?_; rintro e w' ⟨rfl, rfl⟩)
  go_quiet (fail)
  go_wp2
  have hG2 : IsGr 51 (w1.drewN nq) g ⟨L, r, n, U⟩ := HG1.out
  have hk2 : Keep nomod w (w1.drewN nq) := HK.out.drewN _
  have hb2 : (w1.drewN nq).heap[w.heap.size]? = some (.cells #[.int .u64 r, .int .i64 n] 24 (0, 0)) := HB.out
  clear g1 g2 bc0 bc1 HG1 HK HB
  generalize w1.drewN nq = w2 at *
  have bc0 := cell_at (i := 0) hb2 rfl
  have bc1 := cell_at (i := 1) hb2 rfl
  have g0 : w2.cell? ⟨g, 0, none⟩ = some (.int .i64 L) := cell_at hG2 rfl
  have g3 : w2.cell? ⟨g, 3, none⟩ = some (.int .i64 U) := cell_at hG2 rfl
  have f3 : w2.frozen? ⟨g, 3, none⟩ = false := frozen_at hG2 3
  have HG2 := Lib.hid hG2
  have HK2 := Lib.hid hk2
  have HB2 := Lib.hid hb2
  clear hG2 hk2 hb2
  go_still_tail 14, (by kernel_rfl)
  change wpList _ _ _ _ _ w2.drew
  have hG3 : IsGr 51 w2.drew g ⟨L, r, n, U⟩ := HG2.out
  have hk3 : Keep nomod w w2.drew := HK2.out.drew
  clear g0 g3 f3 HG2 HK2 bc0 bc1 HB2
  generalize w2.drew = w3 at *
  have g3 : w3.cell? ⟨g, 3, none⟩ = some (.int .i64 U) := cell_at hG3 rfl
  have f3 : w3.frozen? ⟨g, 3, none⟩ = false := frozen_at hG3 3
  have HG3 := Lib.hid hG3
  have HK3 := Lib.hid hk3
  clear hG3 hk3
  by_cases hm : U < now + L
  · have E := Lib.hid (show max U (now + L) = now + L by omega)
    go_wp2
    go_ret2
    exact ⟨rfl, by rw [E.out]; exact HG3.out.set3 _, HK3.out.of_nomod.gr HG3.out hfl _ _⟩
  · have E := Lib.hid (show max U (now + L) = U by omega)
    go_wp2
    go_ret2
    exact ⟨rfl, by rw [E.out]; exact HG3.out.set3 _, HK3.out.of_nomod.gr HG3.out hfl _ _⟩
set_option maxRecDepth 100000 in
theorem rbeat_wait (w : World) (g : Nat) (L R N U : Int) (h : IsGr 51 w g ⟨L, R, N, U⟩) (hfl : Floor.b ≤ g) (r n now : Int) (hn : namedB r n = true) (ht : timeB now = true) (h1 : 0 ≤ L) (h2 : L ≤ 4294967296) (hne : ¬ (r = R ∧ n = N)) (hlt : now < U) :
    Calls Try.prog 17 #[.pointer (some ⟨g, 0, none⟩), balV r n, .int .i64 now] w fun e w' => beatP 51 w g (⟨L, R, N, U⟩, false, 0) e w' := by
  have hq := fun W => run_eql_bal W r n R N
  rw [show eqB r n R N = false from decide_eq_false hne] at hq
  have hb : 0 ≤ now ∧ now ≤ 17592186044416 := by simpa [timeB] using ht
  have Hn := Lib.hid (fun W => rnamed_c W r n)
  have Ht := Lib.hid (fun W => rtime_c W now)
  rw [hn] at Hn
  rw [ht] at Ht
  have hw := wrap_in (now + L) (by omega)
  unfold balV at *
  clear hn ht
  have HG := Lib.hid h
  go_enter Try.func17, Try.ntmps17
  go_wp2_with fail
  refine (Hn.out _).mono ?_
  rintro e w1 ⟨rfl, hk1⟩
  have hk := ((Keep.refl nomod w).alloc (.cells #[.int .u64 r, .int .i64 n] 24)).trans hk1
  have b1 := hk1.block _ _ (heap_new w (.cells #[.int .u64 r, .int .i64 n] 24)) (fun e => e)
  have bc0 := cell_at (i := 0) b1 rfl
  have bc1 := cell_at (i := 1) b1 rfl
  have HB := Lib.hid b1
  have hG1 : IsGr 51 w1 g ⟨L, R, N, U⟩ := hk.block _ _ HG.out (fun e => e)
  have g1 : w1.cell? ⟨g, 1, none⟩ = some (.int .u64 R) := cell_at hG1 rfl
  have g2 : w1.cell? ⟨g, 2, none⟩ = some (.int .i64 N) := cell_at hG1 rfl
  have HG1 := Lib.hid hG1
  have HK := Lib.hid hk
  clear hG1 hk hk1 b1 h
  go_wp2_with (go_at_call 26; refine (Ht.out _).mono ?_; rintro e w' ⟨rfl, rfl⟩)
  go_quiet (fail)
  have hG2 : IsGr 51 (w1.drewN nq) g ⟨L, R, N, U⟩ := HG1.out
  have hk2 : Keep nomod w (w1.drewN nq) := HK.out.drewN _
  have hb2 : (w1.drewN nq).heap[w.heap.size]? = some (.cells #[.int .u64 r, .int .i64 n] 24 (0, 0)) := HB.out
  clear g1 g2 bc0 bc1 HG1 HK HB
  generalize w1.drewN nq = w2 at *
  have bc0 := cell_at (i := 0) hb2 rfl
  have bc1 := cell_at (i := 1) hb2 rfl
  have g0 : w2.cell? ⟨g, 0, none⟩ = some (.int .i64 L) := cell_at hG2 rfl
  have g1 : w2.cell? ⟨g, 1, none⟩ = some (.int .u64 R) := cell_at hG2 rfl
  have g2 : w2.cell? ⟨g, 2, none⟩ = some (.int .i64 N) := cell_at hG2 rfl
  have g3 : w2.cell? ⟨g, 3, none⟩ = some (.int .i64 U) := cell_at hG2 rfl
  have f1 : w2.frozen? ⟨g, 1, none⟩ = false := frozen_at hG2 1
  have f2 : w2.frozen? ⟨g, 2, none⟩ = false := frozen_at hG2 2
  have f3 : w2.frozen? ⟨g, 3, none⟩ = false := frozen_at hG2 3
  have HG2 := Lib.hid hG2
  have HK2 := Lib.hid hk2
  clear hG2 hk2 hb2
  go_wp2
  go_ret2
  exact ⟨rfl, HG2.out, HK2.out.of_nomod⟩
set_option maxRecDepth 100000 in
theorem rbeat_new (w : World) (g : Nat) (L R N U : Int) (h : IsGr 51 w g ⟨L, R, N, U⟩) (hfl : Floor.b ≤ g) (r n now : Int) (hn : namedB r n = true) (ht : timeB now = true) (h1 : 0 ≤ L) (h2 : L ≤ 4294967296) (hne : ¬ (r = R ∧ n = N)) (hlt : ¬ now < U) :
    Calls Try.prog 17 #[.pointer (some ⟨g, 0, none⟩), balV r n, .int .i64 now] w fun e w' => beatP 51 w g (⟨L, r, n, now + L⟩, true, 0) e w' := by
  have hq := fun W => run_eql_bal W r n R N
  rw [show eqB r n R N = false from decide_eq_false hne] at hq
  have hb : 0 ≤ now ∧ now ≤ 17592186044416 := by simpa [timeB] using ht
  have Hn := Lib.hid (fun W => rnamed_c W r n)
  have Ht := Lib.hid (fun W => rtime_c W now)
  rw [hn] at Hn
  rw [ht] at Ht
  have hw := wrap_in (now + L) (by omega)
  unfold balV at *
  clear hn ht
  have HG := Lib.hid h
  go_enter Try.func17, Try.ntmps17
  go_wp2_with fail
  refine (Hn.out _).mono ?_
  rintro e w1 ⟨rfl, hk1⟩
  have hk := ((Keep.refl nomod w).alloc (.cells #[.int .u64 r, .int .i64 n] 24)).trans hk1
  have b1 := hk1.block _ _ (heap_new w (.cells #[.int .u64 r, .int .i64 n] 24)) (fun e => e)
  have bc0 := cell_at (i := 0) b1 rfl
  have bc1 := cell_at (i := 1) b1 rfl
  have HB := Lib.hid b1
  have hG1 : IsGr 51 w1 g ⟨L, R, N, U⟩ := hk.block _ _ HG.out (fun e => e)
  have g1 : w1.cell? ⟨g, 1, none⟩ = some (.int .u64 R) := cell_at hG1 rfl
  have g2 : w1.cell? ⟨g, 2, none⟩ = some (.int .i64 N) := cell_at hG1 rfl
  have HG1 := Lib.hid hG1
  have HK := Lib.hid hk
  clear hG1 hk hk1 b1 h
  go_wp2_with (go_at_call 26; refine (Ht.out _).mono ?_; rintro e w' ⟨rfl, rfl⟩)
  go_quiet (fail)
  have hG2 : IsGr 51 (w1.drewN nq) g ⟨L, R, N, U⟩ := HG1.out
  have hk2 : Keep nomod w (w1.drewN nq) := HK.out.drewN _
  have hb2 : (w1.drewN nq).heap[w.heap.size]? = some (.cells #[.int .u64 r, .int .i64 n] 24 (0, 0)) := HB.out
  clear g1 g2 bc0 bc1 HG1 HK HB
  generalize w1.drewN nq = w2 at *
  have bc0 := cell_at (i := 0) hb2 rfl
  have bc1 := cell_at (i := 1) hb2 rfl
  have g0 : w2.cell? ⟨g, 0, none⟩ = some (.int .i64 L) := cell_at hG2 rfl
  have g1 : w2.cell? ⟨g, 1, none⟩ = some (.int .u64 R) := cell_at hG2 rfl
  have g2 : w2.cell? ⟨g, 2, none⟩ = some (.int .i64 N) := cell_at hG2 rfl
  have g3 : w2.cell? ⟨g, 3, none⟩ = some (.int .i64 U) := cell_at hG2 rfl
  have f1 : w2.frozen? ⟨g, 1, none⟩ = false := frozen_at hG2 1
  have f2 : w2.frozen? ⟨g, 2, none⟩ = false := frozen_at hG2 2
  have f3 : w2.frozen? ⟨g, 3, none⟩ = false := frozen_at hG2 3
  have HG2 := Lib.hid hG2
  have HK2 := Lib.hid hk2
  clear hG2 hk2 hb2
  go_wp2
  go_ret2
  exact ⟨rfl, ((HG2.out.set1 _).set2 _).set3 _, ((HK2.out.of_nomod.gr HG2.out hfl _ _).gr (HG2.out.set1 _) hfl _ _).gr ((HG2.out.set1 _).set2 _) hfl _ _⟩
theorem rbeat_bad (w : World) (g : Nat) (G : GR) (h : IsGr 51 w g G) (r n now : Int) (hb : (namedB r n && timeB now) = false) :
    Calls Try.prog 17 #[.pointer (some ⟨g, 0, none⟩), balV r n, .int .i64 now] w fun e w' => beatP 51 w g (G, false, 2) e w' := by
  have Hn := Lib.hid (fun W => rnamed_c W r n)
  have Ht := Lib.hid (fun W => rtime_c W now)
  have HG := Lib.hid h
  cases hn : namedB r n with
  | false =>
    rw [hn] at Hn
    unfold balV at *
    clear hn hb h
    go_enter Try.func17, Try.ntmps17
    go_wp2_with (go_at_call 28; refine (Hn.out _).mono ?_; rintro e w1 ⟨rfl, hk1⟩)
    go_ret2
    have hk := ((Keep.refl nomod w).alloc (.cells #[.int .u64 r, .int .i64 n] 24)).trans hk1
    exact ⟨rfl, hk.block _ _ HG.out (fun e => e), hk.of_nomod⟩
  | true =>
    have ht : timeB now = false := by rw [hn] at hb; exact hb
    rw [hn] at Hn
    rw [ht] at Ht
    unfold balV at *
    clear hn hb h ht
    go_enter Try.func17, Try.ntmps17
    go_wp2_with (first
      | (go_at_call 28; refine (Hn.out _).mono ?_; rintro e w1 ⟨rfl, hk1⟩)
      | (go_at_call 26; refine (Ht.out _).mono ?_; rintro e w' ⟨rfl, rfl⟩))
    go_ret2
    have hk := ((Keep.refl nomod w).alloc (.cells #[.int .u64 r, .int .i64 n] 24)).trans hk1
    exact ⟨rfl, hk.block _ _ HG.out (fun e => e), hk.of_nomod⟩
theorem rbeat_c (w : World) (g : Nat) (G : GR) (h : IsGr 51 w g G) (hfl : Floor.b ≤ g) (r n now : Int) (h1 : 0 ≤ G.len) (h2 : G.len ≤ 4294967296) :
    Calls Try.prog 17 #[.pointer (some ⟨g, 0, none⟩), balV r n, .int .i64 now] w fun e w' => beatP 51 w g (beatW G r n now) e w' := by
  obtain ⟨L, R, N, U⟩ := G
  unfold beatW
  by_cases hb : (namedB r n && timeB now) = false
  · rw [if_pos hb]
    exact rbeat_bad w g _ h r n now hb
  · rw [if_neg hb]
    have hb' : namedB r n = true ∧ timeB now = true := by simpa using hb
    by_cases he : r = R ∧ n = N
    · rw [if_pos he]
      exact rbeat_same w g L R N U h hfl r n now hb'.1 hb'.2 h1 h2 he.1 he.2
    · rw [if_neg he]
      by_cases hlt : now < U
      · rw [if_pos hlt]
        exact rbeat_wait w g L R N U h hfl r n now hb'.1 hb'.2 h1 h2 he hlt
      · rw [if_neg hlt]
        exact rbeat_new w g L R N U h hfl r n now hb'.1 hb'.2 h1 h2 he hlt
end Go.Proofs.Ytnjafdjolfdklaa
