/- The known run of the lease's laws. No statement of the seat is proved here. -/
import Derived.Test.YtnjafdjolfdklaaLzN
namespace Go.Proofs.Ytnjafdjolfdklaa
set_option linter.unusedVariables false
set_option linter.unusedSimpArgs false
set_option linter.unusedSectionVars false
open Go.RowKit
variable [Floor]
abbrev lzT : List Nat := [70, tagMap]
def wG0 : GR := ⟨10, 0, 0, 10⟩
def wG1 : GR := ⟨10, 1, 0, 20⟩
def wG2 : GR := ⟨10, 2, 1, 30⟩
theorem wb1 : beatW wG0 1 0 9 = (wG0, false, 0) := by kernel_rfl
theorem wb2 : beatW wG0 1 0 10 = (wG1, true, 0) := by kernel_rfl
theorem wb3 : beatW wG1 2 1 19 = (wG1, false, 0) := by kernel_rfl
theorem wb4 : beatW wG1 2 1 20 = (wG2, true, 0) := by kernel_rfl
def wH0 : HO := ⟨1, 0, 3, 10, 1, [none, none, none]⟩
def wH1 : HO := ⟨1, 0, 3, 10, 1, [some 5, none, none]⟩
def wH2 : HO := ⟨1, 0, 3, 10, 1, [some 5, some 7, none]⟩
theorem wo1 : okW wH0 0 1 0 5 = (wH1, 0) := by kernel_rfl
theorem wo2 : okW wH1 1 1 0 7 = (wH2, 0) := by kernel_rfl
theorem wr1 : runtilW wH1 = (0, false) := by kernel_rfl
theorem wr2 : runtilW wH2 = (13, true) := by kernel_rfl
theorem mods_lz {a b : World} (h : Keep (mods [70]) a b) : Keep (mods lzT) a b := h.mods_mono (by intro x hx; simp at hx; subst hx; simp [lzT])
theorem mods_lz2 {a b : World} (h : Keep (mods [tagMap]) a b) : Keep (mods lzT) a b := h.mods_mono (by intro x hx; simp at hx; subst hx; simp [lzT])
theorem IsGr.keepM {w w' : World} {g : Nat} {G : GR} {M : Nat → Obj → Prop} (h : IsGr 70 w g G) (hk : Keep M w w') (hM : ∀ cs fr, ¬ M g (.cells cs 70 fr)) : IsGr 70 w' g G := hk.block _ _ h (hM _ _)
set_option maxRecDepth 100000 in
set_option maxHeartbeats 1000000 in
theorem works_c (w : World) : Calls Try.prog 5 #[] w fun e w' => e = .returned (.bool true) ∧ Keep nomod w w' := by
  letI : Floor := ⟨w.heap.size⟩
  have hfl0 : Floor.b ≤ w.heap.size := Nat.le_refl _
  go_enter Try.func5, Try.ntmps5
  go_wp2_with fail
  refine (newGr_yes w 10 0 (by kernel_rfl)).mono ?_
  rintro e w1 ⟨rfl, rfl⟩
  go_wp2_with fail
  have hG2 : IsGr 70 (((w.alloc (.cells (grC ⟨10, 0, 0, 10⟩) 70)).alloc (.cells #[.int .u64 1, .int .i64 0] 24)).alloc (.cells #[.int .u64 2, .int .i64 1] 24)) w.heap.size wG0 := heap_old (heap_old (heap_new w _) _) _
  have hb2 : (((w.alloc (.cells (grC ⟨10, 0, 0, 10⟩) 70)).alloc (.cells #[.int .u64 1, .int .i64 0] 24)).alloc (.cells #[.int .u64 2, .int .i64 1] 24)).heap[w.heap.size + 1]? = some (.cells #[.int .u64 1, .int .i64 0] 24 (0, 0)) := heap_old (heap_new_at (by simp) _) _
  have hc2 : (((w.alloc (.cells (grC ⟨10, 0, 0, 10⟩) 70)).alloc (.cells #[.int .u64 1, .int .i64 0] 24)).alloc (.cells #[.int .u64 2, .int .i64 1] 24)).heap[w.heap.size + 2]? = some (.cells #[.int .u64 2, .int .i64 1] 24 (0, 0)) := heap_new_at (by simp) _
  have hk2 : Keep (mods lzT) w (((w.alloc (.cells (grC ⟨10, 0, 0, 10⟩) 70)).alloc (.cells #[.int .u64 1, .int .i64 0] 24)).alloc (.cells #[.int .u64 2, .int .i64 1] 24)) := (((Keep.refl _ w).alloc _).alloc _).alloc _
  have hs2 : w.heap.size + 3 ≤ (((w.alloc (.cells (grC ⟨10, 0, 0, 10⟩) 70)).alloc (.cells #[.int .u64 1, .int .i64 0] 24)).alloc (.cells #[.int .u64 2, .int .i64 1] 24)).heap.size := by simp
  generalize hWW : (((w.alloc (.cells (grC ⟨10, 0, 0, 10⟩) 70)).alloc (.cells #[.int .u64 1, .int .i64 0] 24)).alloc (.cells #[.int .u64 2, .int .i64 1] 24)) = W at *
  clear hWW
  obtain ⟨b, hbe⟩ : ∃ b, w.heap.size + 1 = b := ⟨_, rfl⟩
  obtain ⟨c, hce⟩ : ∃ c, w.heap.size + 1 + 1 = c := ⟨_, rfl⟩
  obtain ⟨g, hge⟩ : ∃ g, w.heap.size = g := ⟨_, rfl⟩
  have hb2 : W.heap[b]? = some (.cells #[.int .u64 1, .int .i64 0] 24 (0, 0)) := by rw [← hbe]; exact hb2
  have hc2 : W.heap[c]? = some (.cells #[.int .u64 2, .int .i64 1] 24 (0, 0)) := by rw [← hce]; exact hc2
  have hfg : Floor.b ≤ g := by rw [← hge]; exact hfl0
  have hG : IsGr 70 W g wG0 := by rw [← hge]; exact hG2
  rw [hce, hbe, hge]
  have HFW : Hid (Floor.b ≤ W.heap.size) := Lib.hid (by omega)
  have HK := Lib.hid hk2
  have hFF : Hid (∀ W', @Keep (@mods ⟨w.heap.size⟩ lzT) w W' → Keep nomod w W') := Lib.hid fun W' h => h.floor
  have HFG := Lib.hid hfg
  clear hbe hce hge hs2 hfl0 hk2 hG2 hfg
  have HG := Lib.hid hG
  have HB := Lib.hid hb2
  have HC := Lib.hid hc2
  clear hG hb2 hc2
  refine (newHo_yes W 1 0 3 10 1 (by kernel_rfl) HFW.out).mono ?_
  rintro e W1 ⟨h, rfl, hH, hk⟩
  have HH : Hid (IsHo W1 h wH0) := Lib.hid hH
  have HB := Lib.hid (hk.block _ _ HB.out (by exact fun e => e))
  have HC := Lib.hid (hk.block _ _ HC.out (by exact fun e => e))
  have HG := Lib.hid (IsGr.keepM HG.out hk (by intro cs fr; exact fun e => e))
  have HK := Lib.hid (HK.out.trans hk.of_nomod)
  clear hk hH HFW
  have b0 : W1.cell? ⟨b, 0, none⟩ = some (.int .u64 1) := cell_at HB.out rfl
  have b1 : W1.cell? ⟨b, 1, none⟩ = some (.int .i64 0) := cell_at HB.out rfl
  go_wp2_with fail
  have Hb := Lib.hid (beat_c W1 g wG0 HG.out HFG.out 1 0 9 (by decide) (by decide))
  rw [wb1] at Hb
  refine Hb.out.mono ?_
  rintro e W2 ⟨rfl, hG, hk⟩
  have HB := Lib.hid (hk.block _ _ HB.out (by simp [mods, tagOf, tagMap]))
  have HC := Lib.hid (hk.block _ _ HC.out (by simp [mods, tagOf, tagMap]))
  have HH := Lib.hid (HH.out.keep hk (by intro cs fr; simp [mods, tagOf, tagMap]) (by intro k es c; simp [mods, tagOf, tagMap]))
  have HK := Lib.hid (HK.out.trans (mods_lz hk))
  have HG := Lib.hid hG
  clear hk hG b0 b1 Hb
  have b0 : W2.cell? ⟨b, 0, none⟩ = some (.int .u64 1) := cell_at HB.out rfl
  have b1 : W2.cell? ⟨b, 1, none⟩ = some (.int .i64 0) := cell_at HB.out rfl
  go_wp2_with fail
  have Hb := Lib.hid (beat_c W2 g wG0 HG.out HFG.out 1 0 10 (by decide) (by decide))
  rw [wb2] at Hb
  refine Hb.out.mono ?_
  rintro e W3 ⟨rfl, hG, hk⟩
  have HB := Lib.hid (hk.block _ _ HB.out (by simp [mods, tagOf, tagMap]))
  have HC := Lib.hid (hk.block _ _ HC.out (by simp [mods, tagOf, tagMap]))
  have HH := Lib.hid (HH.out.keep hk (by intro cs fr; simp [mods, tagOf, tagMap]) (by intro k es c; simp [mods, tagOf, tagMap]))
  have HK := Lib.hid (HK.out.trans (mods_lz hk))
  have HG := Lib.hid hG
  clear hk hG b0 b1 Hb
  have b0 : W3.cell? ⟨c, 0, none⟩ = some (.int .u64 2) := cell_at HC.out rfl
  have b1 : W3.cell? ⟨c, 1, none⟩ = some (.int .i64 1) := cell_at HC.out rfl
  go_wp2_with fail
  have Hb := Lib.hid (beat_c W3 g wG1 HG.out HFG.out 2 1 19 (by decide) (by decide))
  rw [wb3] at Hb
  refine Hb.out.mono ?_
  rintro e W4 ⟨rfl, hG, hk⟩
  have HB := Lib.hid (hk.block _ _ HB.out (by simp [mods, tagOf, tagMap]))
  have HC := Lib.hid (hk.block _ _ HC.out (by simp [mods, tagOf, tagMap]))
  have HH := Lib.hid (HH.out.keep hk (by intro cs fr; simp [mods, tagOf, tagMap]) (by intro k es c; simp [mods, tagOf, tagMap]))
  have HK := Lib.hid (HK.out.trans (mods_lz hk))
  have HG := Lib.hid hG
  clear hk hG b0 b1 Hb
  have b0 : W4.cell? ⟨c, 0, none⟩ = some (.int .u64 2) := cell_at HC.out rfl
  have b1 : W4.cell? ⟨c, 1, none⟩ = some (.int .i64 1) := cell_at HC.out rfl
  go_wp2_with fail
  have Hb := Lib.hid (beat_c W4 g wG1 HG.out HFG.out 2 1 20 (by decide) (by decide))
  rw [wb4] at Hb
  refine Hb.out.mono ?_
  rintro e W5 ⟨rfl, hG, hk⟩
  have HB := Lib.hid (hk.block _ _ HB.out (by simp [mods, tagOf, tagMap]))
  have HC := Lib.hid (hk.block _ _ HC.out (by simp [mods, tagOf, tagMap]))
  have HH := Lib.hid (HH.out.keep hk (by intro cs fr; simp [mods, tagOf, tagMap]) (by intro k es c; simp [mods, tagOf, tagMap]))
  have HK := Lib.hid (HK.out.trans (mods_lz hk))
  have HG := Lib.hid hG
  clear hk hG b0 b1 Hb
  have b0 : W5.cell? ⟨b, 0, none⟩ = some (.int .u64 1) := cell_at HB.out rfl
  have b1 : W5.cell? ⟨b, 1, none⟩ = some (.int .i64 0) := cell_at HB.out rfl
  go_wp2_with fail
  have Hb := Lib.hid (ok_c W5 h wH0 HH.out 0 1 0 5)
  rw [wo1] at Hb
  refine Hb.out.mono ?_
  rintro e W6 ⟨rfl, hH, hk⟩
  have HB := Lib.hid (hk.block _ _ HB.out (by simp [mods, tagOf, tagMap]))
  have HC := Lib.hid (hk.block _ _ HC.out (by simp [mods, tagOf, tagMap]))
  have HG := Lib.hid (IsGr.keepM HG.out hk (by intro cs fr; simp [mods, tagOf, tagMap]))
  have HK := Lib.hid (HK.out.trans (mods_lz2 hk))
  have HH := Lib.hid hH
  clear hk hH b0 b1 Hb
  go_wp2_with fail
  have Hb := Lib.hid (hountil_c W6 h wH1 HH.out)
  rw [← until_eq HH.out.ok, wr1] at Hb
  refine Hb.out.mono ?_
  rintro e W7 ⟨rfl, hk⟩
  have HB := Lib.hid (hk.block _ _ HB.out (by exact fun e => e))
  have HC := Lib.hid (hk.block _ _ HC.out (by exact fun e => e))
  have HG := Lib.hid (IsGr.keepM HG.out hk (by intro cs fr; exact fun e => e))
  have HH := Lib.hid (HH.out.keep hk (by intro cs fr; exact fun e => e) (by intro k es c; exact fun e => e))
  have HK := Lib.hid (HK.out.trans hk.of_nomod)
  clear hk Hb
  have b0 : W7.cell? ⟨b, 0, none⟩ = some (.int .u64 1) := cell_at HB.out rfl
  have b1 : W7.cell? ⟨b, 1, none⟩ = some (.int .i64 0) := cell_at HB.out rfl
  go_wp2_with fail
  have Hb := Lib.hid (ok_c W7 h wH1 HH.out 1 1 0 7)
  rw [wo2] at Hb
  refine Hb.out.mono ?_
  rintro e W8 ⟨rfl, hH, hk⟩
  have HB := Lib.hid (hk.block _ _ HB.out (by simp [mods, tagOf, tagMap]))
  have HC := Lib.hid (hk.block _ _ HC.out (by simp [mods, tagOf, tagMap]))
  have HG := Lib.hid (IsGr.keepM HG.out hk (by intro cs fr; simp [mods, tagOf, tagMap]))
  have HK := Lib.hid (HK.out.trans (mods_lz2 hk))
  have HH := Lib.hid hH
  clear hk hH b0 b1 Hb
  go_wp2_with fail
  have Hb := Lib.hid (hountil_c W8 h wH2 HH.out)
  rw [← until_eq HH.out.ok, wr2] at Hb
  refine Hb.out.mono ?_
  rintro e W9 ⟨rfl, hk⟩
  have HB := Lib.hid (hk.block _ _ HB.out (by exact fun e => e))
  have HC := Lib.hid (hk.block _ _ HC.out (by exact fun e => e))
  have HG := Lib.hid (IsGr.keepM HG.out hk (by intro cs fr; exact fun e => e))
  have HH := Lib.hid (HH.out.keep hk (by intro cs fr; exact fun e => e) (by intro k es c; exact fun e => e))
  have HK := Lib.hid (HK.out.trans hk.of_nomod)
  clear hk Hb
  go_wp2_with fail
  have Hb := Lib.hid (lent_c W9 g wG2 HG.out 29)
  rw [show lentW wG2 29 = (2, 1, true) from by kernel_rfl] at Hb
  refine Hb.out.mono ?_
  rintro e X ⟨rfl, hk⟩
  have HB := Lib.hid (hk.block _ _ HB.out (by exact fun e => e))
  have HC := Lib.hid (hk.block _ _ HC.out (by exact fun e => e))
  have HG := Lib.hid (IsGr.keepM HG.out hk (by intro cs fr; exact fun e => e))
  have HH := Lib.hid (HH.out.keep hk (by intro cs fr; exact fun e => e) (by intro k es c; exact fun e => e))
  have HK := Lib.hid (HK.out.trans hk.of_nomod)
  clear hk Hb
  unfold balV
  go_wp2
  have HD : Hid ((X.alloc (.cells #[.int .u64 2, .int .i64 1] 24)).heap[X.heap.size]? = some (.cells #[.int .u64 2, .int .i64 1] 24 (0, 0))) := Lib.hid (heap_new _ _)
  have hkX : Keep nomod X (X.alloc (.cells #[.int .u64 2, .int .i64 1] 24)) := (Keep.refl _ _).alloc _
  have HB := Lib.hid (hkX.block _ _ HB.out (fun e => e))
  have HC := Lib.hid (hkX.block _ _ HC.out (fun e => e))
  have HG := Lib.hid (IsGr.keepM HG.out hkX (fun cs fr e => e))
  have HH := Lib.hid (HH.out.keep hkX (fun cs fr e => e) (fun k es c e => e))
  have HK := Lib.hid (HK.out.trans hkX.of_nomod)
  clear hkX
  generalize X.heap.size = d at *
  generalize X.alloc (.cells #[.int .u64 2, .int .i64 1] 24) = X1 at *
  have hkd : Keep nomod X1 X1.drew := (Keep.refl _ _).drew
  have HD := Lib.hid (hkd.block _ _ HD.out (fun e => e))
  have HB := Lib.hid (hkd.block _ _ HB.out (fun e => e))
  have HC := Lib.hid (hkd.block _ _ HC.out (fun e => e))
  have HG := Lib.hid (IsGr.keepM HG.out hkd (fun cs fr e => e))
  have HH := Lib.hid (HH.out.keep hkd (fun cs fr e => e) (fun k es c e => e))
  have HK := Lib.hid (HK.out.trans hkd.of_nomod)
  clear hkd
  have hS : ∀ W : World, W.heap[d]? = some (.cells #[.int .u64 2, .int .i64 1] 24 (0, 0)) → W.heap[c]? = some (.cells #[.int .u64 2, .int .i64 1] 24 (0, 0)) → W.heap[b]? = some (.cells #[.int .u64 1, .int .i64 0] 24 (0, 0)) →
      W.cell? ⟨d, 0, none⟩ = some (.int .u64 2) ∧ W.cell? ⟨d, 1, none⟩ = some (.int .i64 1) ∧ W.cell? ⟨c, 0, none⟩ = some (.int .u64 2) ∧ W.cell? ⟨c, 1, none⟩ = some (.int .i64 1) ∧ W.cell? ⟨b, 0, none⟩ = some (.int .u64 1) ∧ W.cell? ⟨b, 1, none⟩ = some (.int .i64 0) :=
    fun W h1 h2 h3 => ⟨cell_at h1 rfl, cell_at h1 rfl, cell_at h2 rfl, cell_at h2 rfl, cell_at h3 rfl, cell_at h3 rfl⟩
  have HS := Lib.hid hS
  clear hS
  refine wp_region_mv (fun k W => (k = 33 ∨ k = 34 ∨ k = 48) → W.cell? ⟨d, 0, none⟩ = some (.int .u64 2) ∧ W.cell? ⟨d, 1, none⟩ = some (.int .i64 1) ∧ W.cell? ⟨c, 0, none⟩ = some (.int .u64 2) ∧ W.cell? ⟨c, 1, none⟩ = some (.int .i64 1) ∧ W.cell? ⟨b, 0, none⟩ = some (.int .u64 1) ∧ W.cell? ⟨b, 1, none⟩ = some (.int .i64 0))
    (.still 0 (.still 1 (.still 2 (.still 3 (.still 4 (.still 5 (.still 6 (.still 7 (.still 8 (.still 9 (.still 10 (.still 11 (.still 12 (.still 13 (.still 14 (.still 15 (.still 16 (.still 17 (.still 18 (.still 19 (.still 20 (.still 21 (.still 22 (.still 23 (.still 24 (.act 25 [0, 1, 2, 3, 4, 5, 6, 7, 8, 9, 10, 11, 12, 13, 14, 15, 16, 17, 18, 19, 20, 21, 22, 23, 24, 26, 27, 28, 30, 31, 32, 33, 34, 35, 36, 37, 38, 39, 40, 41, 43, 44, 45, 46, 48, 49, 50] (.still 26 (.still 27 (.still 28 (.act 29 [0, 1, 2, 3, 4, 5, 6, 7, 8, 9, 10, 11, 12, 13, 14, 15, 16, 17, 18, 19, 20, 21, 22, 23, 24, 26, 27, 28, 30, 31, 32, 33, 34, 35, 36, 37, 38, 39, 40, 41, 43, 44, 45, 46, 48, 49, 50] (.still 30 (.still 31 (.still 32 (.still 33 (.still 34 (.still 35 (.still 36 (.still 37 (.still 38 (.still 39 (.still 40 (.still 41 (.act 42 [0, 1, 2, 3, 4, 5, 6, 7, 8, 9, 10, 11, 12, 13, 14, 15, 16, 17, 18, 19, 20, 21, 22, 23, 24, 26, 27, 28, 30, 31, 32, 33, 34, 35, 36, 37, 38, 39, 40, 41, 43, 44, 45, 46, 48, 49, 50] (.still 43 (.still 44 (.still 45 (.still 46 (.still 48 (.act 47 [0, 1, 2, 3, 4, 5, 6, 7, 8, 9, 10, 11, 12, 13, 14, 15, 16, 17, 18, 19, 20, 21, 22, 23, 24, 26, 27, 28, 30, 31, 32, 33, 34, 35, 36, 37, 38, 39, 40, 41, 43, 44, 45, 46, 48, 49, 50] (.still 49 (.still 50 (.act 51 [0, 1, 2, 3, 4, 5, 6, 7, 8, 9, 10, 11, 12, 13, 14, 15, 16, 17, 18, 19, 20, 21, 22, 23, 24, 26, 27, 28, 30, 31, 32, 33, 34, 35, 36, 37, 38, 39, 40, 41, 43, 44, 45, 46, 48, 49, 50] (.fin))))))))))))))))))))))))))))))))))))))))))))))))))))) (by kernel_rfl) (by kernel_rfl) (by kernel_rfl) (fun _ _ _ _ _ h => h) (fun _ _ => HS.out _ HD.out HC.out HB.out) ?_
  generalize X1.drew = X2 at *
  iterate 25
    refine m3_still _ _ rfl rfl (by intro W hS; go_simp; first | done | exact rfl) ?_
    simp only [List.getElem_toArray, List.getElem_cons_succ, List.getElem_cons_zero, Act.put, List.setIfInBounds_toArray, List.set_cons_succ, List.set_cons_zero]
  have Hv := Lib.hid (valid_c X2 h wH2 HH.out 12)
  rw [show validW wH2 12 = true by unfold validW; rw [← until_eq HH.out.ok, wr2]; rfl] at Hv
  refine m3_act _ rfl rfl (fun K hK => ?_)
  simp only [List.getElem_toArray, List.getElem_cons_succ, List.getElem_cons_zero, Act.put, List.setIfInBounds_toArray, List.set_cons_succ, List.set_cons_zero]
  go_simp
  refine Hv.out.mono ?_
  rintro e X3 ⟨rfl, hk⟩
  have HD := Lib.hid (hk.block _ _ HD.out (fun e => e))
  have HB := Lib.hid (hk.block _ _ HB.out (fun e => e))
  have HC := Lib.hid (hk.block _ _ HC.out (fun e => e))
  have HG := Lib.hid (IsGr.keepM HG.out hk (fun cs fr e => e))
  have HH := Lib.hid (HH.out.keep hk (fun cs fr e => e) (fun k es c e => e))
  have HK := Lib.hid (HK.out.trans hk.of_nomod)
  clear hk Hv
  refine hK _ _ (fun _ _ _ => HS.out _ HD.out HC.out HB.out) ?_
  clear hK K
  iterate 3
    refine m3_still _ _ rfl rfl (by intro W hS; go_simp; first | done | exact rfl) ?_
    simp only [List.getElem_toArray, List.getElem_cons_succ, List.getElem_cons_zero, Act.put, List.setIfInBounds_toArray, List.set_cons_succ, List.set_cons_zero]
  have Hv := Lib.hid (valid_c X3 h wH2 HH.out 13)
  rw [show validW wH2 13 = false by unfold validW; rw [← until_eq HH.out.ok, wr2]; rfl] at Hv
  refine m3_act _ rfl rfl (fun K hK => ?_)
  simp only [List.getElem_toArray, List.getElem_cons_succ, List.getElem_cons_zero, Act.put, List.setIfInBounds_toArray, List.set_cons_succ, List.set_cons_zero]
  go_simp
  refine Hv.out.mono ?_
  rintro e X4 ⟨rfl, hk⟩
  have HD := Lib.hid (hk.block _ _ HD.out (fun e => e))
  have HB := Lib.hid (hk.block _ _ HB.out (fun e => e))
  have HC := Lib.hid (hk.block _ _ HC.out (fun e => e))
  have HG := Lib.hid (IsGr.keepM HG.out hk (fun cs fr e => e))
  have HH := Lib.hid (HH.out.keep hk (fun cs fr e => e) (fun k es c e => e))
  have HK := Lib.hid (HK.out.trans hk.of_nomod)
  clear hk Hv
  refine hK _ _ (fun _ _ _ => HS.out _ HD.out HC.out HB.out) ?_
  clear hK K
  iterate 12
    refine m3_still _ _ rfl rfl (by intro W hS; go_simp; first | done | exact rfl) ?_
    simp only [List.getElem_toArray, List.getElem_cons_succ, List.getElem_cons_zero, Act.put, List.setIfInBounds_toArray, List.set_cons_succ, List.set_cons_zero]
  refine m3_act _ rfl rfl (fun K hK => ?_)
  simp only [List.getElem_toArray, List.getElem_cons_succ, List.getElem_cons_zero, Act.put, List.setIfInBounds_toArray, List.set_cons_succ, List.set_cons_zero]
  go_simp
  refine (until_c X4 g wG2 HG.out).mono ?_
  rintro e X5 ⟨rfl, rfl⟩
  refine hK _ _ (fun _ _ _ => HS.out _ HD.out HC.out HB.out) ?_
  clear hK K
  iterate 5
    refine m3_still _ _ rfl rfl (by intro W hS; go_simp; first | done | exact rfl) ?_
    simp only [List.getElem_toArray, List.getElem_cons_succ, List.getElem_cons_zero, Act.put, List.setIfInBounds_toArray, List.set_cons_succ, List.set_cons_zero]
  have Hv := Lib.hid (ballot_c X5 h wH2 HH.out)
  refine m3_act _ rfl rfl (fun K hK => ?_)
  simp only [List.getElem_toArray, List.getElem_cons_succ, List.getElem_cons_zero, Act.put, List.setIfInBounds_toArray, List.set_cons_succ, List.set_cons_zero]
  go_simp
  refine Hv.out.mono ?_
  rintro e X6 ⟨rfl, hk⟩
  have HD := Lib.hid (hk.block _ _ HD.out (fun e => e))
  have HB := Lib.hid (hk.block _ _ HB.out (fun e => e))
  have HC := Lib.hid (hk.block _ _ HC.out (fun e => e))
  have HG := Lib.hid (IsGr.keepM HG.out hk (fun cs fr e => e))
  have HH := Lib.hid (HH.out.keep hk (fun cs fr e => e) (fun k es c e => e))
  have HK := Lib.hid (HK.out.trans hk.of_nomod)
  clear hk Hv
  refine hK _ _ (fun _ _ _ => HS.out _ HD.out HC.out HB.out) ?_
  clear hK K
  rw [show balV wH2.r wH2.n = .agg #[.int .u64 1, .int .i64 0] from rfl]
  iterate 2
    refine m3_still _ _ rfl rfl (by intro W hS; go_simp; first | done | exact rfl) ?_
    simp only [List.getElem_toArray, List.getElem_cons_succ, List.getElem_cons_zero, Act.put, List.setIfInBounds_toArray, List.set_cons_succ, List.set_cons_zero]
  refine m3_act _ rfl rfl (fun K hK => ?_)
  simp only [List.getElem_toArray, List.getElem_cons_succ, List.getElem_cons_zero, Act.put, List.setIfInBounds_toArray, List.set_cons_succ, List.set_cons_zero]
  go_simp
  refine hK _ _ (fun _ _ _ => HS.out _ HD.out HC.out HB.out) ?_
  clear hK K
  refine m3_end ?_
  go_wp2
  go_ret
  exact ⟨rfl, hFF.out _ HK.out⟩
end Go.Proofs.Ytnjafdjolfdklaa
