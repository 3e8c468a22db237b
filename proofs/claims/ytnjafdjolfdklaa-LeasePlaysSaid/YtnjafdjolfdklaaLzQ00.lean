/- LeasePlays, walked, where he who lends may not be, he who holds may not be. No statement of the seat is proved here. -/
import Derived.Test.YtnjafdjolfdklaaLzP
namespace Go.Proofs.Ytnjafdjolfdklaa
set_option linter.unusedVariables false
set_option linter.unusedSimpArgs false
set_option linter.unusedSectionVars false
open Go.RowKit
set_option maxRecDepth 100000 in
set_option maxHeartbeats 2000000 in
theorem plays_00 (w : World) (len now bound r n N : Int) (v : Value) (l : List StepV) (hv : StepsIn w v l) (hl : l.length ≤ 300) (hg : okG len now = false) (hh : okH r n N len bound = false) :
    Calls Try.prog 3 #[.int .i64 len, .int .i64 now, .int .i64 bound, balV r n, .int .i64 N, v] w fun e w' => e = .returned (.bool true) ∧ Keep nomod w w' := by
  letI : Floor := ⟨w.heap.size⟩
  have hfl0 : Floor.b ≤ w.heap.size := Nat.le_refl _
  have hFF : Hid (∀ W', @Keep (@mods ⟨w.heap.size⟩ plT) w W' → Keep nomod w W') := Lib.hid fun W' h => h.floor
  have HW := Lib.hid (fun W => works_c W)
  obtain ⟨q, cap, rfl, hc⟩ := hv
  have HC := Lib.hid hc
  obtain ⟨m, hm⟩ : ∃ m, l.length = m := ⟨_, rfl⟩
  rw [hm] at hl
  rw [hm]
  have HM := Lib.hid hm
  clear hc hm
  have HOG := Lib.hid hg
  have HOH := Lib.hid hh
  clear hg hh
  unfold balV
  go_enter Try.func3, Try.ntmps3
  go_wp2_with fail
  have bx0 : (w.alloc (.cells #[.int .u64 r, .int .i64 n] 24)).heap[w.heap.size]? = some (.cells #[.int .u64 r, .int .i64 n] 24 (0, 0)) := heap_new _ _
  have k0 : Keep nomod w (w.alloc (.cells #[.int .u64 r, .int .i64 n] 24)) := (Keep.refl _ _).alloc _
  generalize w.alloc (.cells #[.int .u64 r, .int .i64 n] 24) = W0 at *
  have HBx := Lib.hid bx0
  have HK0 := Lib.hid k0
  clear bx0 k0
  refine (newGr_no W0 len now HOG.out).mono ?_
  rintro e W1 ⟨rfl, rfl⟩
  go_wp2_with fail
  refine (rnewGr_no W0 len now HOG.out).mono ?_
  rintro e W2 ⟨rfl, rfl⟩
  have HK := HK0
  clear HK0
  obtain ⟨W2, rfl⟩ : ∃ W2, W2 = W0 := ⟨_, rfl⟩
  have bc0 : W2.cell? ⟨w.heap.size, 0, none⟩ = some (.int .u64 r) := cell_at HBx.out rfl
  have bc1 : W2.cell? ⟨w.heap.size, 1, none⟩ = some (.int .i64 n) := cell_at HBx.out rfl
  go_wp2_with fail
  refine (newHo_no W2 r n N len bound HOH.out).mono ?_
  rintro e W3 ⟨rfl, hk⟩
  have HBx := Lib.hid (hk.block _ _ HBx.out (fun e => e))
  have HK := Lib.hid (HK.out.trans hk)
  clear hk bc0 bc1
  have bc0 : W3.cell? ⟨w.heap.size, 0, none⟩ = some (.int .u64 r) := cell_at HBx.out rfl
  have bc1 : W3.cell? ⟨w.heap.size, 1, none⟩ = some (.int .i64 n) := cell_at HBx.out rfl
  go_wp2_with fail
  refine (rnewHo_no W3 r n N len bound HOH.out).mono ?_
  rintro e W4 ⟨rfl, hk⟩
  have HBx := Lib.hid (hk.block _ _ HBx.out (fun e => e))
  have HK := Lib.hid (HK.out.trans hk)
  clear hk bc0 bc1
  have HKP : Hid (Keep (mods plT) w W4) := Lib.hid HK.out.of_nomod
  have HFW : Hid (Floor.b ≤ W4.heap.size) := Lib.hid (Nat.le_trans hfl0 HK.out.size)
  clear HK
  go_wp2
  go_loopw [19] (fun iv W => ∃ (k : Nat), k ≤ m ∧ iv = .int .i64 (k : Int) ∧ Hid (W.heap[w.heap.size]? = some (.cells #[.int .u64 r, .int .i64 n] 24 (0, 0))) ∧ Hid (Keep (mods plT) w W)) (fun iv _ => m - (intOf iv).toNat)
  case atStart => exact ⟨0, Nat.zero_le _, rfl, HBx, HKP⟩
  case round =>
    obtain ⟨k, hk, rfl, HBx, HK⟩ := hrel
    clear HKP HFW
    by_cases hlt : k < m
    · obtain ⟨x, hx⟩ : ∃ x, l[k]? = some x := ⟨_, List.getElem?_eq_getElem (by rw [HM.out]; exact hlt)⟩
      obtain ⟨b1, o1, rfl, s0, s1, s2, s3, s4⟩ := HC.out k x hx
      have t0 := cell_keep (hFF.out _ HK.out) s0
      have t1 := cell_keep (hFF.out _ HK.out) s1
      have t2 := cell_keep (hFF.out _ HK.out) s2
      have t3 := cell_keep (hFF.out _ HK.out) s3
      have t4 := cell_keep (hFF.out _ HK.out) s4
      obtain ⟨xh, xf, xr, xn, xt⟩ := x
      dsimp only at t0 t1 t2 t3 t4
      clear s0 s1 s2 s3 s4 hx HC
      have hal : Keep nomod wr (wr.alloc (.cells #[.bool xh, .int .i64 xf, .int .u64 xr, .int .i64 xn, .int .i64 xt] 39)) := (Keep.refl _ _).alloc _
      have HSt : Hid ((wr.alloc (.cells #[.bool xh, .int .i64 xf, .int .u64 xr, .int .i64 xn, .int .i64 xt] 39)).heap[wr.heap.size]? = some (.cells #[.bool xh, .int .i64 xf, .int .u64 xr, .int .i64 xn, .int .i64 xt] 39 (0, 0))) := Lib.hid (heap_new _ _)
      have HBx := Lib.hid (hal.block _ _ HBx.out (fun e => e))
      have HK := Lib.hid (HK.out.trans hal.of_nomod)
      clear hal
      cases xh with
      | true =>
        go_wp2
        go_roundw
        case rel => exact ⟨k + 1, by omega, by go_num, HBx, HK⟩
        case measure => simp [intOf]; omega
      | false =>
        go_wp2
        go_roundw
        case rel => exact ⟨k + 1, by omega, by go_num, HBx, HK⟩
        case measure => simp [intOf]; omega
    · have HF := hFF.out _ HK.out
      go_wp2_with (go_at_call 5; refine (HW.out _).mono ?_; rintro e w2 ⟨rfl, hk2⟩)
      go_ret
      exact ⟨rfl, HF.trans hk2⟩
end Go.Proofs.Ytnjafdjolfdklaa
