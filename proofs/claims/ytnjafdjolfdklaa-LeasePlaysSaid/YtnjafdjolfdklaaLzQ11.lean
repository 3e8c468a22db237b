/- LeasePlays, walked, where he who lends may be, he who holds may be. No statement of the seat is proved here. -/
import Derived.Test.YtnjafdjolfdklaaLzP
namespace Go.Proofs.Ytnjafdjolfdklaa
set_option linter.unusedVariables false
set_option linter.unusedSimpArgs false
set_option linter.unusedSectionVars false
open Go.RowKit
set_option maxRecDepth 100000 in
set_option maxHeartbeats 2000000 in
theorem plays_11 (w : World) (len now bound r n N : Int) (v : Value) (l : List StepV) (hv : StepsIn w v l) (hl : l.length ≤ 300) (hg : okG len now = true) (hh : okH r n N len bound = true) :
    Calls Try.prog 3 #[.int .i64 len, .int .i64 now, .int .i64 bound, balV r n, .int .i64 N, v] w fun e w' => e = .returned (.bool true) ∧ Keep nomod w w' := by
  letI : Floor := ⟨w.heap.size⟩
  have hfl0 : Floor.b ≤ w.heap.size := Nat.le_refl _
  have hFF : Hid (∀ W', @Keep (@mods ⟨w.heap.size⟩ plT) w W' → Keep nomod w W') := Lib.hid fun W' h => h.floor
  have HW := Lib.hid (fun W => works_c W)
  obtain ⟨q, cap, rfl, hc⟩ := hv
  have HC := Lib.hid hc
  obtain ⟨m, hm⟩ : ∃ m, l.length = m := ⟨_, rfl⟩
  rw [hm] at hl
  rw [hm]
  have HM := Lib.hid hm
  clear hc hm
  have hgl := okG_yes hg
  have HOG := Lib.hid hg
  have HOH := Lib.hid hh
  have hN : 1 ≤ N ∧ N ≤ 7 := by
    unfold okH at hh
    simp only [Bool.and_eq_true, decide_eq_true_eq] at hh
    omega
  obtain ⟨N, rfl⟩ : ∃ M : Nat, N = M := ⟨N.toNat, by omega⟩
  clear hg hh
  unfold balV
  go_enter Try.func3, Try.ntmps3
  go_wp2_with fail
  have bx0 : (w.alloc (.cells #[.int .u64 r, .int .i64 n] 24)).heap[w.heap.size]? = some (.cells #[.int .u64 r, .int .i64 n] 24 (0, 0)) := heap_new _ _
  have k0 : Keep nomod w (w.alloc (.cells #[.int .u64 r, .int .i64 n] 24)) := (Keep.refl _ _).alloc _
  generalize w.alloc (.cells #[.int .u64 r, .int .i64 n] 24) = W0 at *
  have HBx := Lib.hid bx0
  have HK0 := Lib.hid k0
  clear bx0 k0
  refine (newGr_yes W0 len now HOG.out).mono ?_
  rintro e W1 ⟨rfl, rfl⟩
  have hG1 : IsGr 70 (W0.alloc (.cells (grC ⟨len, 0, 0, now + len⟩) 70)) W0.heap.size ⟨len, 0, 0, now + len⟩ := heap_new _ _
  have k1 : Keep nomod W0 (W0.alloc (.cells (grC ⟨len, 0, 0, now + len⟩) 70)) := (Keep.refl _ _).alloc _
  have hfg : Floor.b ≤ W0.heap.size := Nat.le_trans hfl0 HK0.out.size
  generalize W0.heap.size = g at *
  generalize W0.alloc (.cells (grC ⟨len, 0, 0, now + len⟩) 70) = W1 at *
  have HG := Lib.hid hG1
  have HFG := Lib.hid hfg
  have HBx := Lib.hid (k1.block _ _ HBx.out (fun e => e))
  have HK := Lib.hid (HK0.out.trans k1)
  clear hG1 k1 hfg HK0
  go_wp2_with fail
  refine (rnewGr_yes W1 len now HOG.out).mono ?_
  rintro e W2 ⟨rfl, rfl⟩
  have hG2 : IsGr 51 (W1.alloc (.cells (grC ⟨len, 0, 0, now + len⟩) 51)) W1.heap.size ⟨len, 0, 0, now + len⟩ := heap_new _ _
  have k1 : Keep nomod W1 (W1.alloc (.cells (grC ⟨len, 0, 0, now + len⟩) 51)) := (Keep.refl _ _).alloc _
  have hfg : Floor.b ≤ W1.heap.size := Nat.le_trans hfl0 HK.out.size
  generalize W1.heap.size = g2 at *
  generalize W1.alloc (.cells (grC ⟨len, 0, 0, now + len⟩) 51) = W2 at *
  have HG2 := Lib.hid hG2
  have HFG2 := Lib.hid hfg
  have HG := Lib.hid (HG.out.keepT k1 (fun _ _ e => e))
  have HBx := Lib.hid (k1.block _ _ HBx.out (fun e => e))
  have HK := Lib.hid (HK.out.trans k1)
  clear hG2 k1 hfg
  have bc0 : W2.cell? ⟨w.heap.size, 0, none⟩ = some (.int .u64 r) := cell_at HBx.out rfl
  have bc1 : W2.cell? ⟨w.heap.size, 1, none⟩ = some (.int .i64 n) := cell_at HBx.out rfl
  go_wp2_with fail
  refine (newHo_yes W2 r n N len bound HOH.out (Nat.le_trans hfl0 HK.out.size)).mono ?_
  rintro e W3 ⟨h, rfl, hH, hk⟩
  have HG := Lib.hid (HG.out.keepT hk (fun _ _ e => e))
  have HG2 := Lib.hid (HG2.out.keepT hk (fun _ _ e => e))
  have HBx := Lib.hid (hk.block _ _ HBx.out (fun e => e))
  have HK := Lib.hid (HK.out.trans hk)
  have HH := Lib.hid hH
  clear hH hk bc0 bc1
  have bc0 : W3.cell? ⟨w.heap.size, 0, none⟩ = some (.int .u64 r) := cell_at HBx.out rfl
  have bc1 : W3.cell? ⟨w.heap.size, 1, none⟩ = some (.int .i64 n) := cell_at HBx.out rfl
  go_wp2_with fail
  refine (rnewHo_yes W3 r n N len bound HOH.out (Nat.le_trans hfl0 HK.out.size)).mono ?_
  rintro e W4 ⟨h2, rfl, hH, hk⟩
  have HG := Lib.hid (HG.out.keepT hk (fun _ _ e => e))
  have HG2 := Lib.hid (HG2.out.keepT hk (fun _ _ e => e))
  have HH := Lib.hid (HH.out.keep hk (fun _ _ e => e) (fun _ _ _ e => e))
  have HBx := Lib.hid (hk.block _ _ HBx.out (fun e => e))
  have HK := Lib.hid (HK.out.trans hk)
  have HR := Lib.hid hH
  clear hH hk bc0 bc1
  have HKP : Hid (Keep (mods plT) w W4) := Lib.hid HK.out.of_nomod
  have HFW : Hid (Floor.b ≤ W4.heap.size) := Lib.hid (Nat.le_trans hfl0 HK.out.size)
  clear HK
  go_wp2
  go_loopw [19] (fun iv W => ∃ (k : Nat) (G : GR) (H : HO), k ≤ m ∧ iv = .int .i64 (k : Int) ∧ Hid (IsGr 70 W g G) ∧ Hid (IsGr 51 W g2 G) ∧ Hid (0 ≤ G.len ∧ G.len ≤ 4294967296) ∧ Hid (IsHo W h H) ∧ Hid (IsRHo W h2 H) ∧ Hid (H.r = r ∧ H.n = n) ∧ Hid (W.heap[w.heap.size]? = some (.cells #[.int .u64 r, .int .i64 n] 24 (0, 0))) ∧ Hid (Keep (mods plT) w W)) (fun iv _ => m - (intOf iv).toNat)
  case atStart => exact ⟨0, ⟨len, 0, 0, now + len⟩, _, Nat.zero_le _, rfl, HG, HG2, Lib.hid ⟨by show 0 ≤ len; omega, hgl.2.1⟩, HH, HR, Lib.hid ⟨rfl, rfl⟩, HBx, HKP⟩
  case round =>
    obtain ⟨k, G, H, hk, rfl, HG, HG2, HGL, HH, HR, HHB, HBx, HK⟩ := hrel
    clear HKP HFW
    by_cases hlt : k < m
    · obtain ⟨x, hx⟩ : ∃ x, l[k]? = some x := ⟨_, List.getElem?_eq_getElem (by rw [HM.out]; exact hlt)⟩
      obtain ⟨b1, o1, rfl, s0, s1, s2, s3, s4⟩ := HC.out k x hx
      have t0 := cell_keep (hFF.out _ HK.out) s0
      have t1 := cell_keep (hFF.out _ HK.out) s1
      have t2 := cell_keep (hFF.out _ HK.out) s2
      have t3 := cell_keep (hFF.out _ HK.out) s3
      have t4 := cell_keep (hFF.out _ HK.out) s4
      obtain ⟨xh, xf, xr, xn, xt⟩ := x
      dsimp only at t0 t1 t2 t3 t4
      clear s0 s1 s2 s3 s4 hx HC
      have hal : Keep nomod wr (wr.alloc (.cells #[.bool xh, .int .i64 xf, .int .u64 xr, .int .i64 xn, .int .i64 xt] 39)) := (Keep.refl _ _).alloc _
      have HSt : Hid ((wr.alloc (.cells #[.bool xh, .int .i64 xf, .int .u64 xr, .int .i64 xn, .int .i64 xt] 39)).heap[wr.heap.size]? = some (.cells #[.bool xh, .int .i64 xf, .int .u64 xr, .int .i64 xn, .int .i64 xt] 39 (0, 0))) := Lib.hid (heap_new _ _)
      have HG := Lib.hid (HG.out.keepT hal (fun _ _ e => e))
      have HG2 := Lib.hid (HG2.out.keepT hal (fun _ _ e => e))
      have HH := Lib.hid (HH.out.keep hal (fun _ _ e => e) (fun _ _ _ e => e))
      have HR := Lib.hid (HR.out.keep hal (fun _ _ _ _ _ e => e))
      have HBx := Lib.hid (hal.block _ _ HBx.out (fun e => e))
      have HK := Lib.hid (HK.out.trans hal.of_nomod)
      clear hal
      cases xh with
      | true =>
        go_wp2
        generalize wr.alloc (.cells #[.bool true, .int .i64 xf, .int .u64 xr, .int .i64 xn, .int .i64 xt] 39) = X0 at *
        generalize wr.heap.size = sb at *
        have hS : ∀ W : World, W.heap[sb]? = some (.cells #[.bool true, .int .i64 xf, .int .u64 xr, .int .i64 xn, .int .i64 xt] 39 (0, 0)) → W.cell? ⟨sb, 1, none⟩ = some (.int .i64 xf) ∧ W.cell? ⟨sb, 2, none⟩ = some (.int .u64 xr) ∧ W.cell? ⟨sb, 3, none⟩ = some (.int .i64 xn) ∧ W.cell? ⟨sb, 4, none⟩ = some (.int .i64 xt) := fun W h1 => ⟨cell_at h1 rfl, cell_at h1 rfl, cell_at h1 rfl, cell_at h1 rfl⟩
        have HS := Lib.hid hS
        have hkd : Keep nomod X0 X0.drew := (Keep.refl _ _).drew
        have HG := Lib.hid (HG.out.keepT hkd (fun _ _ e => e))
        have HG2 := Lib.hid (HG2.out.keepT hkd (fun _ _ e => e))
        have HH := Lib.hid (HH.out.keep hkd (fun _ _ e => e) (fun _ _ _ e => e))
        have HR := Lib.hid (HR.out.keep hkd (fun _ _ _ _ _ e => e))
        have HBx := Lib.hid (hkd.block _ _ HBx.out (fun e => e))
        have HSt := Lib.hid (hkd.block _ _ HSt.out (fun e => e))
        have HK := Lib.hid (HK.out.trans hkd.of_nomod)
        clear hS hkd t0 t1 t2 t3 t4
        refine wp_region_mv (fun k W => (k = 2 ∨ k = 4 ∨ k = 6 ∨ k = 10 ∨ k = 12 ∨ k = 14) → W.cell? ⟨sb, 1, none⟩ = some (.int .i64 xf) ∧ W.cell? ⟨sb, 2, none⟩ = some (.int .u64 xr) ∧ W.cell? ⟨sb, 3, none⟩ = some (.int .i64 xn) ∧ W.cell? ⟨sb, 4, none⟩ = some (.int .i64 xt))
          (.still 0 (.still 1 (.still 2 (.still 3 (.still 4 (.still 5 (.still 6 (.still 8 (.still 9 (.still 10 (.still 11 (.still 12 (.still 13 (.still 14 (.act 7 [0, 1, 2, 3, 4, 5, 6, 8, 9, 10, 11, 12, 13, 14, 16] (.act 15 [0, 1, 2, 3, 4, 5, 6, 8, 9, 10, 11, 12, 13, 14, 16] (.still 16 (.fin)))))))))))))))))) (by kernel_rfl) (by kernel_rfl) (by kernel_rfl) (fun _ _ _ _ _ h => h) (fun _ _ => HS.out _ HSt.out) ?_
        generalize X0.drew = X1 at *
        iterate 14
          refine m3_still _ _ rfl rfl (by intro W hS; go_simp; first | done | exact rfl) ?_
          simp only [List.getElem_toArray, List.getElem_cons_succ, List.getElem_cons_zero, Act.put, List.setIfInBounds_toArray, List.set_cons_succ, List.set_cons_zero]
        have Hc := Lib.hid (ok_c X1 h H HH.out xf xr xn xt)
        have hbk : (okW H xf xr xn xt).1.r = H.r ∧ (okW H xf xr xn xt).1.n = H.n := by
          unfold okW
          split
          · exact ⟨rfl, rfl⟩
          · split <;> exact ⟨rfl, rfl⟩
        have HBK := Lib.hid hbk
        have Hc2 := Lib.hid (fun W hW => rok_c W h2 H hW xf xr xn xt)
        clear hbk
        obtain ⟨R0, hR0⟩ : ∃ R0, okW H xf xr xn xt = R0 := ⟨_, rfl⟩
        rw [hR0] at Hc HBK Hc2
        clear hR0
        obtain ⟨H1, e1⟩ := R0
        refine m3_act _ rfl rfl (fun K hK => ?_)
        simp only [List.getElem_toArray, List.getElem_cons_succ, List.getElem_cons_zero, Act.put, List.setIfInBounds_toArray, List.set_cons_succ, List.set_cons_zero]
        go_simp
        refine Hc.out.mono ?_
        rintro e X2 ⟨rfl, hH, hk2⟩
        have HR := Lib.hid (HR.out.keep hk2 (by intro k cs t fr ht; simp only [List.mem_cons, List.not_mem_nil, or_false] at ht; rcases ht with rfl | rfl | rfl <;> simp [mods, tagOf, tagMap]))
        have HG := Lib.hid (HG.out.keepT hk2 (by intro cs fr; simp [mods, tagOf, tagMap]))
        have HG2 := Lib.hid (HG2.out.keepT hk2 (by intro cs fr; simp [mods, tagOf, tagMap]))
        have HBx := Lib.hid (hk2.block _ _ HBx.out (by simp [mods, tagOf, tagMap]))
        have HSt := Lib.hid (hk2.block _ _ HSt.out (by simp [mods, tagOf, tagMap]))
        have HK := Lib.hid (HK.out.trans (mods_pl hk2 (by simp [plT])))
        have HH := Lib.hid hH
        refine hK _ _ (fun _ _ _ => HS.out _ HSt.out) ?_
        clear hK K hH hk2
        refine m3_act _ rfl rfl (fun K hK => ?_)
        simp only [List.getElem_toArray, List.getElem_cons_succ, List.getElem_cons_zero, Act.put, List.setIfInBounds_toArray, List.set_cons_succ, List.set_cons_zero]
        go_simp
        refine (Hc2.out _ HR.out).mono ?_
        rintro e X3 ⟨rfl, hH, hk2⟩
        have HH := Lib.hid (HH.out.keep hk2 (by intro cs fr; simp [mods, tagOf, tagMap]) (by intro k es c; simp [mods, tagOf, tagMap]))
        have HG := Lib.hid (HG.out.keepT hk2 (by intro cs fr; simp [mods, tagOf, tagMap]))
        have HG2 := Lib.hid (HG2.out.keepT hk2 (by intro cs fr; simp [mods, tagOf, tagMap]))
        have HBx := Lib.hid (hk2.block _ _ HBx.out (by simp [mods, tagOf, tagMap]))
        have HSt := Lib.hid (hk2.block _ _ HSt.out (by simp [mods, tagOf, tagMap]))
        have HK := Lib.hid (HK.out.trans (mods_pl hk2 (by simp [plT])))
        have HR := Lib.hid hH
        refine hK _ _ (fun _ _ _ => HS.out _ HSt.out) ?_
        clear hK K hH hk2 Hc Hc2
        iterate 1
          refine m3_still _ _ rfl rfl (by intro W hS; go_simp; first | done | exact rfl) ?_
          simp only [List.getElem_toArray, List.getElem_cons_succ, List.getElem_cons_zero, Act.put, List.setIfInBounds_toArray, List.set_cons_succ, List.set_cons_zero]
        refine m3_end ?_
        have Hu := Lib.hid (hountil_c X3 h H1 HH.out)
        go_wp2_with fail
        refine Hu.out.mono ?_
        rintro e X4 ⟨rfl, hk2⟩
        have HG := Lib.hid (HG.out.keepT hk2 (fun _ _ e => e))
        have HG2 := Lib.hid (HG2.out.keepT hk2 (fun _ _ e => e))
        have HH := Lib.hid (HH.out.keep hk2 (fun _ _ e => e) (fun _ _ _ e => e))
        have HR := Lib.hid (HR.out.keep hk2 (fun _ _ _ _ _ e => e))
        have HBx := Lib.hid (hk2.block _ _ HBx.out (fun e => e))
        have HSt := Lib.hid (hk2.block _ _ HSt.out (fun e => e))
        have HK := Lib.hid (HK.out.trans hk2.of_nomod)
        have Hu2 := Lib.hid (rhountil_c X4 h2 H1 HR.out)
        rw [until_eq HH.out.ok] at Hu2
        clear hk2
        go_wp2_with fail
        refine Hu2.out.mono ?_
        rintro e X5 ⟨rfl, hk2⟩
        have HG := Lib.hid (HG.out.keepT hk2 (fun _ _ e => e))
        have HG2 := Lib.hid (HG2.out.keepT hk2 (fun _ _ e => e))
        have HH := Lib.hid (HH.out.keep hk2 (fun _ _ e => e) (fun _ _ _ e => e))
        have HR := Lib.hid (HR.out.keep hk2 (fun _ _ _ _ _ e => e))
        have HBx := Lib.hid (hk2.block _ _ HBx.out (fun e => e))
        have HSt := Lib.hid (hk2.block _ _ HSt.out (fun e => e))
        have HK := Lib.hid (HK.out.trans hk2.of_nomod)
        have Hv := Lib.hid (fun W hW => valid_c W h H1 hW xt)
        have hve : validW H1 xt = ((untilW H1).2 && decide (xt < (untilW H1).1)) := rfl
        rw [hve] at Hv
        clear hk2 Hu Hu2 hve
        generalize (untilW H1).1 = U at *
        generalize (untilW H1).2 = is at *
        have hnb : (binOp .neq 24 (.agg #[.int .u64 r, .int .i64 n]) (.agg #[.int .u64 r, .int .i64 n])).run Try.prog = fun W => .ok (.bool false) W := by
          funext W; rw [run_neq_bal, show eqB r n r n = true from decide_eq_true ⟨rfl, rfl⟩]; rfl
        have hnb2 : ∀ W, (binOp .neq 24 (.agg #[.int .u64 r, .int .i64 n]) (.agg #[.int .u64 r, .int .i64 n])).run Try.prog W = .ok (.bool false) W := fun W => by rw [hnb]
        clear hnb
        have hS2 : ∀ W : World, W.heap[sb]? = some (.cells #[.bool true, .int .i64 xf, .int .u64 xr, .int .i64 xn, .int .i64 xt] 39 (0, 0)) → W.heap[w.heap.size]? = some (.cells #[.int .u64 r, .int .i64 n] 24 (0, 0)) →
            W.cell? ⟨sb, 4, none⟩ = some (.int .i64 xt) ∧ W.cell? ⟨w.heap.size, 0, none⟩ = some (.int .u64 r) ∧ W.cell? ⟨w.heap.size, 1, none⟩ = some (.int .i64 n) := fun W h1 h2 => ⟨cell_at h1 rfl, cell_at h2 rfl, cell_at h2 rfl⟩
        have HS2 := Lib.hid hS2
        have hkd : Keep nomod X5 X5.drew := (Keep.refl _ _).drew
        have HG := Lib.hid (HG.out.keepT hkd (fun _ _ e => e))
        have HG2 := Lib.hid (HG2.out.keepT hkd (fun _ _ e => e))
        have HH := Lib.hid (HH.out.keep hkd (fun _ _ e => e) (fun _ _ _ e => e))
        have HR := Lib.hid (HR.out.keep hkd (fun _ _ _ _ _ e => e))
        have HBx := Lib.hid (hkd.block _ _ HBx.out (fun e => e))
        have HSt := Lib.hid (hkd.block _ _ HSt.out (fun e => e))
        have HK := Lib.hid (HK.out.trans hkd.of_nomod)
        clear hS2 hkd
        have HBal := Lib.hid (fun W hW => ballot_c W h H1 hW)
        rw [HBK.out.1, HBK.out.2, HHB.out.1, HHB.out.2] at HBal
        unfold balV at HBal
        have HE : Hid (∀ W, IsHo W h H1 → IsRHo W h2 H1 → H1.r = r ∧ H1.n = n) := Lib.hid fun _ _ _ => ⟨HBK.out.1.trans HHB.out.1, HBK.out.2.trans HHB.out.2⟩
        clear HHB HBK
        cases is with
        | true =>
          by_cases hxu : xt < U
          · have hd : decide (xt < U) = true := decide_eq_true hxu
            rw [hd, Bool.true_and] at Hv
            clear hd
            go_wp2
            refine wp_region_mv (fun k W => (k = 11 ∨ k = 16 ∨ k = 25) → W.cell? ⟨sb, 4, none⟩ = some (.int .i64 xt) ∧ W.cell? ⟨w.heap.size, 0, none⟩ = some (.int .u64 r) ∧ W.cell? ⟨w.heap.size, 1, none⟩ = some (.int .i64 n))
              (.still 0 (.still 1 (.still 2 (.still 3 (.still 4 (.still 5 (.still 6 (.still 7 (.still 8 (.still 9 (.still 10 (.still 11 (.still 13 (.act 12 [0, 1, 2, 3, 4, 5, 6, 7, 8, 9, 10, 11, 13, 14, 15, 16, 17, 18, 19, 20, 21, 22, 23, 25, 26, 27] (.still 14 (.still 15 (.still 16 (.still 17 (.still 18 (.still 19 (.still 20 (.still 21 (.still 22 (.still 23 (.still 25 (.act 24 [0, 1, 2, 3, 4, 5, 6, 7, 8, 9, 10, 11, 13, 14, 15, 16, 17, 18, 19, 20, 21, 22, 23, 25, 26, 27] (.still 26 (.still 27 (.fin))))))))))))))))))))))))))))) (by kernel_rfl) (by kernel_rfl) (by kernel_rfl) (fun _ _ _ _ _ h => h) (fun _ _ => HS2.out _ HSt.out HBx.out) ?_
            generalize X5.drew = X6 at *
            iterate 13
              first | refine m3_still _ _ rfl rfl (by intro W hS; go_simp; first | done | exact rfl) ?_ | refine m3_skip _ rfl rfl ?_
              simp only [List.getElem_toArray, List.getElem_cons_succ, List.getElem_cons_zero, Act.put, List.setIfInBounds_toArray, List.set_cons_succ, List.set_cons_zero]
            refine m3_act _ rfl rfl (fun K hK => ?_)
            simp only [List.getElem_toArray, List.getElem_cons_succ, List.getElem_cons_zero, Act.put, List.setIfInBounds_toArray, List.set_cons_succ, List.set_cons_zero]
            go_simp
            refine (Hv.out _ HH.out).mono ?_
            rintro e X7 ⟨rfl, hk2⟩
            have HG := Lib.hid (HG.out.keepT hk2 (fun _ _ e => e))
            have HG2 := Lib.hid (HG2.out.keepT hk2 (fun _ _ e => e))
            have HH := Lib.hid (HH.out.keep hk2 (fun _ _ e => e) (fun _ _ _ e => e))
            have HR := Lib.hid (HR.out.keep hk2 (fun _ _ _ _ _ e => e))
            have HBx := Lib.hid (hk2.block _ _ HBx.out (fun e => e))
            have HSt := Lib.hid (hk2.block _ _ HSt.out (fun e => e))
            have HK := Lib.hid (HK.out.trans hk2.of_nomod)
            refine hK _ _ (fun _ _ _ => HS2.out _ HSt.out HBx.out) ?_
            clear hK K hk2
            iterate 11
              first | refine m3_still _ _ rfl rfl (by intro W hS; go_simp; first | done | exact rfl) ?_ | refine m3_skip _ rfl rfl ?_
              simp only [List.getElem_toArray, List.getElem_cons_succ, List.getElem_cons_zero, Act.put, List.setIfInBounds_toArray, List.set_cons_succ, List.set_cons_zero]
            refine m3_act _ rfl rfl (fun K hK => ?_)
            simp only [List.getElem_toArray, List.getElem_cons_succ, List.getElem_cons_zero, Act.put, List.setIfInBounds_toArray, List.set_cons_succ, List.set_cons_zero]
            go_simp
            refine (HBal.out _ HH.out).mono ?_
            rintro e X8 ⟨rfl, hk2⟩
            have HG := Lib.hid (HG.out.keepT hk2 (fun _ _ e => e))
            have HG2 := Lib.hid (HG2.out.keepT hk2 (fun _ _ e => e))
            have HH := Lib.hid (HH.out.keep hk2 (fun _ _ e => e) (fun _ _ _ e => e))
            have HR := Lib.hid (HR.out.keep hk2 (fun _ _ _ _ _ e => e))
            have HBx := Lib.hid (hk2.block _ _ HBx.out (fun e => e))
            have HSt := Lib.hid (hk2.block _ _ HSt.out (fun e => e))
            have HK := Lib.hid (HK.out.trans hk2.of_nomod)
            refine hK _ _ (fun _ _ _ => HS2.out _ HSt.out HBx.out) ?_
            clear hK K hk2
            iterate 2
              first | refine m3_still _ _ rfl rfl (by intro W hS; go_simp; first | done | exact rfl) ?_ | refine m3_skip _ rfl rfl ?_
              simp only [List.getElem_toArray, List.getElem_cons_succ, List.getElem_cons_zero, Act.put, List.setIfInBounds_toArray, List.set_cons_succ, List.set_cons_zero]
            refine m3_end ?_
            have t0 : X8.cell? ⟨sb, 0, none⟩ = some (.bool true) := cell_at HSt.out rfl
            go_wp2
            go_roundw
            case rel => exact ⟨k + 1, G, H1, by omega, by go_num, HG, HG2, HGL, HH, HR, Lib.hid (HE.out _ HH.out HR.out), HBx, HK⟩
            case measure => simp [intOf]; omega
          · have hd : decide (xt < U) = false := decide_eq_false hxu
            rw [hd, Bool.true_and] at Hv
            clear hd
            have hge : U ≤ xt := Int.not_lt.1 hxu
            go_wp2
            refine wp_region_mv (fun k W => (k = 11 ∨ k = 16 ∨ k = 25) → W.cell? ⟨sb, 4, none⟩ = some (.int .i64 xt) ∧ W.cell? ⟨w.heap.size, 0, none⟩ = some (.int .u64 r) ∧ W.cell? ⟨w.heap.size, 1, none⟩ = some (.int .i64 n))
              (.still 0 (.still 1 (.still 2 (.still 3 (.still 4 (.still 5 (.still 6 (.still 7 (.still 8 (.still 9 (.still 10 (.still 11 (.still 13 (.act 12 [0, 1, 2, 3, 4, 5, 6, 7, 8, 9, 10, 11, 13, 14, 15, 16, 17, 18, 19, 20, 21, 22, 23, 25, 26, 27] (.still 14 (.still 15 (.still 16 (.still 17 (.still 18 (.still 19 (.still 20 (.still 21 (.still 22 (.still 23 (.still 25 (.act 24 [0, 1, 2, 3, 4, 5, 6, 7, 8, 9, 10, 11, 13, 14, 15, 16, 17, 18, 19, 20, 21, 22, 23, 25, 26, 27] (.still 26 (.still 27 (.fin))))))))))))))))))))))))))))) (by kernel_rfl) (by kernel_rfl) (by kernel_rfl) (fun _ _ _ _ _ h => h) (fun _ _ => HS2.out _ HSt.out HBx.out) ?_
            generalize X5.drew = X6 at *
            iterate 13
              first | refine m3_still _ _ rfl rfl (by intro W hS; go_simp; first | done | exact rfl) ?_ | refine m3_skip _ rfl rfl ?_
              simp only [List.getElem_toArray, List.getElem_cons_succ, List.getElem_cons_zero, Act.put, List.setIfInBounds_toArray, List.set_cons_succ, List.set_cons_zero]
            refine m3_act _ rfl rfl (fun K hK => ?_)
            simp only [List.getElem_toArray, List.getElem_cons_succ, List.getElem_cons_zero, Act.put, List.setIfInBounds_toArray, List.set_cons_succ, List.set_cons_zero]
            go_simp
            refine (Hv.out _ HH.out).mono ?_
            rintro e X7 ⟨rfl, hk2⟩
            have HG := Lib.hid (HG.out.keepT hk2 (fun _ _ e => e))
            have HG2 := Lib.hid (HG2.out.keepT hk2 (fun _ _ e => e))
            have HH := Lib.hid (HH.out.keep hk2 (fun _ _ e => e) (fun _ _ _ e => e))
            have HR := Lib.hid (HR.out.keep hk2 (fun _ _ _ _ _ e => e))
            have HBx := Lib.hid (hk2.block _ _ HBx.out (fun e => e))
            have HSt := Lib.hid (hk2.block _ _ HSt.out (fun e => e))
            have HK := Lib.hid (HK.out.trans hk2.of_nomod)
            refine hK _ _ (fun _ _ _ => HS2.out _ HSt.out HBx.out) ?_
            clear hK K hk2
            iterate 5
              first | refine m3_still _ _ rfl rfl (by intro W hS; go_simp; first | done | exact rfl) ?_ | refine m3_skip _ rfl rfl ?_
              simp only [List.getElem_toArray, List.getElem_cons_succ, List.getElem_cons_zero, Act.put, List.setIfInBounds_toArray, List.set_cons_succ, List.set_cons_zero]
            rw [show decide (xt < U) = false from decide_eq_false (Int.not_lt.2 hge)]
            iterate 6
              first | refine m3_still _ _ rfl rfl (by intro W hS; go_simp; first | done | exact rfl) ?_ | refine m3_skip _ rfl rfl ?_
              simp only [List.getElem_toArray, List.getElem_cons_succ, List.getElem_cons_zero, Act.put, List.setIfInBounds_toArray, List.set_cons_succ, List.set_cons_zero]
            refine m3_act _ rfl rfl (fun K hK => ?_)
            simp only [List.getElem_toArray, List.getElem_cons_succ, List.getElem_cons_zero, Act.put, List.setIfInBounds_toArray, List.set_cons_succ, List.set_cons_zero]
            go_simp
            refine (HBal.out _ HH.out).mono ?_
            rintro e X8 ⟨rfl, hk2⟩
            have HG := Lib.hid (HG.out.keepT hk2 (fun _ _ e => e))
            have HG2 := Lib.hid (HG2.out.keepT hk2 (fun _ _ e => e))
            have HH := Lib.hid (HH.out.keep hk2 (fun _ _ e => e) (fun _ _ _ e => e))
            have HR := Lib.hid (HR.out.keep hk2 (fun _ _ _ _ _ e => e))
            have HBx := Lib.hid (hk2.block _ _ HBx.out (fun e => e))
            have HSt := Lib.hid (hk2.block _ _ HSt.out (fun e => e))
            have HK := Lib.hid (HK.out.trans hk2.of_nomod)
            refine hK _ _ (fun _ _ _ => HS2.out _ HSt.out HBx.out) ?_
            clear hK K hk2
            iterate 2
              first | refine m3_still _ _ rfl rfl (by intro W hS; go_simp; first | done | exact rfl) ?_ | refine m3_skip _ rfl rfl ?_
              simp only [List.getElem_toArray, List.getElem_cons_succ, List.getElem_cons_zero, Act.put, List.setIfInBounds_toArray, List.set_cons_succ, List.set_cons_zero]
            refine m3_end ?_
            have t0 : X8.cell? ⟨sb, 0, none⟩ = some (.bool true) := cell_at HSt.out rfl
            go_wp2
            go_roundw
            case rel => exact ⟨k + 1, G, H1, by omega, by go_num, HG, HG2, HGL, HH, HR, Lib.hid (HE.out _ HH.out HR.out), HBx, HK⟩
            case measure => simp [intOf]; omega
        | false =>
          rw [Bool.false_and] at Hv
          go_wp2
          refine wp_region_mv (fun k W => (k = 11 ∨ k = 16 ∨ k = 25) → W.cell? ⟨sb, 4, none⟩ = some (.int .i64 xt) ∧ W.cell? ⟨w.heap.size, 0, none⟩ = some (.int .u64 r) ∧ W.cell? ⟨w.heap.size, 1, none⟩ = some (.int .i64 n))
            (.still 0 (.still 1 (.still 2 (.still 3 (.still 4 (.still 5 (.still 6 (.still 7 (.still 8 (.still 9 (.still 10 (.still 11 (.still 13 (.act 12 [0, 1, 2, 3, 4, 5, 6, 7, 8, 9, 10, 11, 13, 14, 15, 16, 17, 18, 19, 20, 21, 22, 23, 25, 26, 27] (.still 14 (.still 15 (.still 16 (.still 17 (.still 18 (.still 19 (.still 20 (.still 21 (.still 22 (.still 23 (.still 25 (.act 24 [0, 1, 2, 3, 4, 5, 6, 7, 8, 9, 10, 11, 13, 14, 15, 16, 17, 18, 19, 20, 21, 22, 23, 25, 26, 27] (.still 26 (.still 27 (.fin))))))))))))))))))))))))))))) (by kernel_rfl) (by kernel_rfl) (by kernel_rfl) (fun _ _ _ _ _ h => h) (fun _ _ => HS2.out _ HSt.out HBx.out) ?_
          generalize X5.drew = X6 at *
          iterate 13
            first | refine m3_still _ _ rfl rfl (by intro W hS; go_simp; first | done | exact rfl) ?_ | refine m3_skip _ rfl rfl ?_
            simp only [List.getElem_toArray, List.getElem_cons_succ, List.getElem_cons_zero, Act.put, List.setIfInBounds_toArray, List.set_cons_succ, List.set_cons_zero]
          refine m3_act _ rfl rfl (fun K hK => ?_)
          simp only [List.getElem_toArray, List.getElem_cons_succ, List.getElem_cons_zero, Act.put, List.setIfInBounds_toArray, List.set_cons_succ, List.set_cons_zero]
          go_simp
          refine (Hv.out _ HH.out).mono ?_
          rintro e X7 ⟨rfl, hk2⟩
          have HG := Lib.hid (HG.out.keepT hk2 (fun _ _ e => e))
          have HG2 := Lib.hid (HG2.out.keepT hk2 (fun _ _ e => e))
          have HH := Lib.hid (HH.out.keep hk2 (fun _ _ e => e) (fun _ _ _ e => e))
          have HR := Lib.hid (HR.out.keep hk2 (fun _ _ _ _ _ e => e))
          have HBx := Lib.hid (hk2.block _ _ HBx.out (fun e => e))
          have HSt := Lib.hid (hk2.block _ _ HSt.out (fun e => e))
          have HK := Lib.hid (HK.out.trans hk2.of_nomod)
          refine hK _ _ (fun _ _ _ => HS2.out _ HSt.out HBx.out) ?_
          clear hK K hk2
          iterate 11
            first | refine m3_still _ _ rfl rfl (by intro W hS; go_simp; first | done | exact rfl) ?_ | refine m3_skip _ rfl rfl ?_
            simp only [List.getElem_toArray, List.getElem_cons_succ, List.getElem_cons_zero, Act.put, List.setIfInBounds_toArray, List.set_cons_succ, List.set_cons_zero]
          refine m3_act _ rfl rfl (fun K hK => ?_)
          simp only [List.getElem_toArray, List.getElem_cons_succ, List.getElem_cons_zero, Act.put, List.setIfInBounds_toArray, List.set_cons_succ, List.set_cons_zero]
          go_simp
          refine (HBal.out _ HH.out).mono ?_
          rintro e X8 ⟨rfl, hk2⟩
          have HG := Lib.hid (HG.out.keepT hk2 (fun _ _ e => e))
          have HG2 := Lib.hid (HG2.out.keepT hk2 (fun _ _ e => e))
          have HH := Lib.hid (HH.out.keep hk2 (fun _ _ e => e) (fun _ _ _ e => e))
          have HR := Lib.hid (HR.out.keep hk2 (fun _ _ _ _ _ e => e))
          have HBx := Lib.hid (hk2.block _ _ HBx.out (fun e => e))
          have HSt := Lib.hid (hk2.block _ _ HSt.out (fun e => e))
          have HK := Lib.hid (HK.out.trans hk2.of_nomod)
          refine hK _ _ (fun _ _ _ => HS2.out _ HSt.out HBx.out) ?_
          clear hK K hk2
          iterate 2
            first | refine m3_still _ _ rfl rfl (by intro W hS; go_simp; first | done | exact rfl) ?_ | refine m3_skip _ rfl rfl ?_
            simp only [List.getElem_toArray, List.getElem_cons_succ, List.getElem_cons_zero, Act.put, List.setIfInBounds_toArray, List.set_cons_succ, List.set_cons_zero]
          refine m3_end ?_
          have t0 : X8.cell? ⟨sb, 0, none⟩ = some (.bool true) := cell_at HSt.out rfl
          go_wp2
          go_roundw
          case rel => exact ⟨k + 1, G, H1, by omega, by go_num, HG, HG2, HGL, HH, HR, Lib.hid (HE.out _ HH.out HR.out), HBx, HK⟩
          case measure => simp [intOf]; omega
      | false =>
        go_wp2_with fail
        generalize wr.alloc (.cells #[.bool false, .int .i64 xf, .int .u64 xr, .int .i64 xn, .int .i64 xt] 39) = X0 at *
        generalize wr.heap.size = sb at *
        clear t0 t1 t2 t3 t4
        have Hc := Lib.hid (beat_c X0 g G HG.out HFG.out xr xn xt HGL.out.1 HGL.out.2)
        have Hc2 := Lib.hid (fun W hW => rbeat_c W g2 G hW HFG2.out xr xn xt HGL.out.1 HGL.out.2)
        have hgk : (beatW G xr xn xt).1.len = G.len := by
          unfold beatW
          split
          · rfl
          · split
            · rfl
            · split <;> rfl
        have HGL : Hid (0 ≤ (beatW G xr xn xt).1.len ∧ (beatW G xr xn xt).1.len ≤ 4294967296) := Lib.hid (by rw [hgk]; exact HGL.out)
        clear hgk
        obtain ⟨R0, hR0⟩ : ∃ R0, beatW G xr xn xt = R0 := ⟨_, rfl⟩
        rw [hR0] at Hc Hc2 HGL
        clear hR0
        obtain ⟨G1, p1, e1⟩ := R0
        unfold balV at Hc Hc2
        refine Hc.out.mono ?_
        rintro e X1 ⟨rfl, hG, hk2⟩
        have HG2 := Lib.hid (HG2.out.keepT hk2 (by intro cs fr; simp [mods, tagOf, tagMap]))
        have HH := Lib.hid (HH.out.keep hk2 (by intro cs fr; simp [mods, tagOf, tagMap]) (by intro k es c; simp [mods, tagOf, tagMap]))
        have HR := Lib.hid (HR.out.keep hk2 (by intro k cs t fr ht; simp only [List.mem_cons, List.not_mem_nil, or_false] at ht; rcases ht with rfl | rfl | rfl <;> simp [mods, tagOf, tagMap]))
        have HBx := Lib.hid (hk2.block _ _ HBx.out (by simp [mods, tagOf, tagMap]))
        have HSt := Lib.hid (hk2.block _ _ HSt.out (by simp [mods, tagOf, tagMap]))
        have HK := Lib.hid (HK.out.trans (mods_pl hk2 (by simp [plT])))
        have HG := Lib.hid hG
        clear hG hk2
        have t2 : X1.cell? ⟨sb, 2, none⟩ = some (.int .u64 xr) := cell_at HSt.out rfl
        have t3 : X1.cell? ⟨sb, 3, none⟩ = some (.int .i64 xn) := cell_at HSt.out rfl
        have t4 : X1.cell? ⟨sb, 4, none⟩ = some (.int .i64 xt) := cell_at HSt.out rfl
        dsimp only
        go_wp2_with fail
        refine (Hc2.out _ HG2.out).mono ?_
        rintro e X2 ⟨rfl, hG, hk2⟩
        have HG := Lib.hid (HG.out.keepT hk2 (by intro cs fr; simp [mods, tagOf, tagMap]))
        have HH := Lib.hid (HH.out.keep hk2 (by intro cs fr; simp [mods, tagOf, tagMap]) (by intro k es c; simp [mods, tagOf, tagMap]))
        have HR := Lib.hid (HR.out.keep hk2 (by intro k cs t fr ht; simp only [List.mem_cons, List.not_mem_nil, or_false] at ht; rcases ht with rfl | rfl | rfl <;> simp [mods, tagOf, tagMap]))
        have HBx := Lib.hid (hk2.block _ _ HBx.out (by simp [mods, tagOf, tagMap]))
        have HSt := Lib.hid (hk2.block _ _ HSt.out (by simp [mods, tagOf, tagMap]))
        have HK := Lib.hid (HK.out.trans (mods_pl hk2 (by simp [plT])))
        have HG2 := Lib.hid hG
        clear hG hk2 t2 t3 t4
        have t2 : X2.cell? ⟨sb, 2, none⟩ = some (.int .u64 xr) := cell_at HSt.out rfl
        have t3 : X2.cell? ⟨sb, 3, none⟩ = some (.int .i64 xn) := cell_at HSt.out rfl
        have t4 : X2.cell? ⟨sb, 4, none⟩ = some (.int .i64 xt) := cell_at HSt.out rfl
        dsimp only
        have Hl := Lib.hid (fun W hW => lent_c W g G1 hW xt)
        have Hl2 := Lib.hid (fun W hW => rlent_c W g2 G1 hW xt)
        obtain ⟨L0, hL0⟩ : ∃ L0, lentW G1 xt = L0 := ⟨_, rfl⟩
        rw [hL0] at Hl Hl2
        clear hL0 Hc Hc2
        obtain ⟨lr, ln, lb⟩ := L0
        unfold balV at Hl Hl2
        go_wp2_with fail
        refine (Hl.out _ HG.out).mono ?_
        rintro e X3 ⟨rfl, hk2⟩
        have HG := Lib.hid (HG.out.keepT hk2 (fun _ _ e => e))
        have HG2 := Lib.hid (HG2.out.keepT hk2 (fun _ _ e => e))
        have HH := Lib.hid (HH.out.keep hk2 (fun _ _ e => e) (fun _ _ _ e => e))
        have HR := Lib.hid (HR.out.keep hk2 (fun _ _ _ _ _ e => e))
        have HBx := Lib.hid (hk2.block _ _ HBx.out (fun e => e))
        have HSt := Lib.hid (hk2.block _ _ HSt.out (fun e => e))
        have HK := Lib.hid (HK.out.trans hk2.of_nomod)
        clear hk2 t2 t3 t4
        have t4 : ∀ o, (X3.alloc o).cell? ⟨sb, 4, none⟩ = some (.int .i64 xt) := fun o => cell_at (heap_old HSt.out o) rfl
        dsimp only
        go_wp2_with fail
        have Hy : Hid ((X3.alloc (.cells #[.int .u64 lr, .int .i64 ln] 24)).heap[X3.heap.size]? = some (.cells #[.int .u64 lr, .int .i64 ln] 24 (0, 0))) := Lib.hid (heap_new _ _)
        have hal : Keep nomod X3 (X3.alloc (.cells #[.int .u64 lr, .int .i64 ln] 24)) := (Keep.refl _ _).alloc _
        have HG := Lib.hid (HG.out.keepT hal (fun _ _ e => e))
        have HG2 := Lib.hid (HG2.out.keepT hal (fun _ _ e => e))
        have HH := Lib.hid (HH.out.keep hal (fun _ _ e => e) (fun _ _ _ e => e))
        have HR := Lib.hid (HR.out.keep hal (fun _ _ _ _ _ e => e))
        have HBx := Lib.hid (hal.block _ _ HBx.out (fun e => e))
        have HSt := Lib.hid (hal.block _ _ HSt.out (fun e => e))
        have HK := Lib.hid (HK.out.trans hal.of_nomod)
        clear hal t4
        generalize X3.alloc (.cells #[.int .u64 lr, .int .i64 ln] 24) = X4 at *
        generalize X3.heap.size = yb at *
        refine (Hl2.out _ HG2.out).mono ?_
        rintro e X5 ⟨rfl, hk2⟩
        have Hy := Lib.hid (hk2.block _ _ Hy.out (fun e => e))
        have HG := Lib.hid (HG.out.keepT hk2 (fun _ _ e => e))
        have HG2 := Lib.hid (HG2.out.keepT hk2 (fun _ _ e => e))
        have HH := Lib.hid (HH.out.keep hk2 (fun _ _ e => e) (fun _ _ _ e => e))
        have HR := Lib.hid (HR.out.keep hk2 (fun _ _ _ _ _ e => e))
        have HBx := Lib.hid (hk2.block _ _ HBx.out (fun e => e))
        have HSt := Lib.hid (hk2.block _ _ HSt.out (fun e => e))
        have HK := Lib.hid (HK.out.trans hk2.of_nomod)
        clear hk2
        dsimp only
        go_wp2_with fail
        have Hz : Hid ((X5.alloc (.cells #[.int .u64 lr, .int .i64 ln] 24)).heap[X5.heap.size]? = some (.cells #[.int .u64 lr, .int .i64 ln] 24 (0, 0))) := Lib.hid (heap_new _ _)
        have hal : Keep nomod X5 (X5.alloc (.cells #[.int .u64 lr, .int .i64 ln] 24)).drew := ((Keep.refl _ _).alloc _).drew
        have Hy := Lib.hid (hal.block _ _ Hy.out (fun e => e))
        have Hz := Lib.hid ((((Keep.refl nomod _).drew).block _ _ Hz.out (fun e => e)))
        have HG := Lib.hid (HG.out.keepT hal (fun _ _ e => e))
        have HG2 := Lib.hid (HG2.out.keepT hal (fun _ _ e => e))
        have HH := Lib.hid (HH.out.keep hal (fun _ _ e => e) (fun _ _ _ e => e))
        have HR := Lib.hid (HR.out.keep hal (fun _ _ _ _ _ e => e))
        have HBx := Lib.hid (hal.block _ _ HBx.out (fun e => e))
        have HSt := Lib.hid (hal.block _ _ HSt.out (fun e => e))
        have HK := Lib.hid (HK.out.trans hal.of_nomod)
        clear hal Hl Hl2
        have hnb2 : ∀ W, (binOp .neq 24 (.agg #[.int .u64 lr, .int .i64 ln]) (.agg #[.int .u64 lr, .int .i64 ln])).run Try.prog W = .ok (.bool false) W := fun W => by
          rw [run_neq_bal, show eqB lr ln lr ln = true from decide_eq_true ⟨rfl, rfl⟩]; rfl
        have hS2 : ∀ W : World, W.heap[yb]? = some (.cells #[.int .u64 lr, .int .i64 ln] 24 (0, 0)) → W.heap[X5.heap.size]? = some (.cells #[.int .u64 lr, .int .i64 ln] 24 (0, 0)) → IsGr 51 W g2 G1 →
            W.cell? ⟨yb, 0, none⟩ = some (.int .u64 lr) ∧ W.cell? ⟨yb, 1, none⟩ = some (.int .i64 ln) ∧ W.cell? ⟨X5.heap.size, 0, none⟩ = some (.int .u64 lr) ∧ W.cell? ⟨X5.heap.size, 1, none⟩ = some (.int .i64 ln) ∧ W.cell? ⟨g2, 3, none⟩ = some (.int .i64 G1.until_) := fun W h1 h2 h3 => ⟨cell_at h1 rfl, cell_at h1 rfl, cell_at h2 rfl, cell_at h2 rfl, cell_at h3 rfl⟩
        have HS2 := Lib.hid hS2
        clear hS2
        refine wp_region_mv (fun k W => (k = 9 ∨ k = 10 ∨ k = 24) → W.cell? ⟨yb, 0, none⟩ = some (.int .u64 lr) ∧ W.cell? ⟨yb, 1, none⟩ = some (.int .i64 ln) ∧ W.cell? ⟨X5.heap.size, 0, none⟩ = some (.int .u64 lr) ∧ W.cell? ⟨X5.heap.size, 1, none⟩ = some (.int .i64 ln) ∧ W.cell? ⟨g2, 3, none⟩ = some (.int .i64 G1.until_))
          (.still 0 (.still 1 (.still 2 (.still 3 (.still 4 (.still 5 (.still 6 (.still 7 (.still 8 (.still 9 (.still 10 (.still 11 (.still 12 (.still 13 (.still 14 (.still 15 (.still 16 (.still 17 (.still 18 (.still 19 (.still 21 (.still 22 (.still 23 (.still 24 (.act 20 [0, 1, 2, 3, 4, 5, 6, 7, 8, 9, 10, 11, 12, 13, 14, 15, 16, 17, 18, 19, 21, 22, 23, 24, 25, 26] (.still 25 (.still 26 (.fin)))))))))))))))))))))))))))) (by kernel_rfl) (by kernel_rfl) (by kernel_rfl) (fun _ _ _ _ _ h => h) (fun _ _ => HS2.out _ Hy.out Hz.out HG2.out) ?_
        generalize (X5.alloc (.cells #[.int .u64 lr, .int .i64 ln] 24)).drew = X6 at *
        generalize X5.heap.size = zb at *
        iterate 24
          refine m3_still _ _ rfl rfl (by intro W hS; go_simp; first | done | exact rfl) ?_
          simp only [List.getElem_toArray, List.getElem_cons_succ, List.getElem_cons_zero, Act.put, List.setIfInBounds_toArray, List.set_cons_succ, List.set_cons_zero]
        have Hu := Lib.hid (until_c X6 g G1 HG.out)
        refine m3_act _ rfl rfl (fun K hK => ?_)
        simp only [List.getElem_toArray, List.getElem_cons_succ, List.getElem_cons_zero, Act.put, List.setIfInBounds_toArray, List.set_cons_succ, List.set_cons_zero]
        go_simp
        refine Hu.out.mono ?_
        rintro e X7 ⟨rfl, rfl⟩
        refine hK _ _ (fun _ _ _ => HS2.out _ Hy.out Hz.out HG2.out) ?_
        clear hK K Hu
        iterate 2
          refine m3_still _ _ rfl rfl (by intro W hS; go_simp; first | done | exact rfl) ?_
          simp only [List.getElem_toArray, List.getElem_cons_succ, List.getElem_cons_zero, Act.put, List.setIfInBounds_toArray, List.set_cons_succ, List.set_cons_zero]
        refine m3_end ?_
        go_wp2
        go_roundw
        case rel => exact ⟨k + 1, G1, H, by omega, by go_num, HG, HG2, HGL, HH, HR, HHB, HBx, HK⟩
        case measure => simp [intOf]; omega
    · have HF := hFF.out _ HK.out
      go_wp2_with (go_at_call 5; refine (HW.out _).mono ?_; rintro e w2 ⟨rfl, hk2⟩)
      go_ret
      exact ⟨rfl, HF.trans hk2⟩
end Go.Proofs.Ytnjafdjolfdklaa
