/- Frames, part 2: Frame, Read. -/
import Derived.Test.YtimfgeklnlnniaaFrame
namespace Go.Proofs.Ytimfgeklnlnniaa
set_option linter.unusedVariables false
set_option linter.unusedSimpArgs false
open Go.RowKit
attribute [local go_sem] ba_append
def headOf (t : Bs) : Bs := fourL t.length ++ t
def frameOf (t : Bs) : Bs := headOf t ++ fourL (crcOf (headOf t))
def frame1 (t : Bs) : Bs × Int := if t.length ≤ 65536 then (frameOf t, 0) else ([], 4)
theorem length_fourL (x : Nat) : (fourL x).length = 4 := rfl
theorem crcOf_lt (s : Bs) : crcOf s < 4294967296 := by unfold crcOf; omega
set_option maxRecDepth 100000 in
theorem frame_c (w : World) (t : Bs) (ht : t.length ≤ 9223372036854775000) : Calls Try.prog 31 #[.string ⟨t.toArray⟩] w fun e w' => e = .returned (.tuple #[.string ⟨(frame1 t).1.toArray⟩, .int .i64 (frame1 t).2]) ∧ Keep nomod w w' := by
  by_cases h : t.length ≤ 65536
  · have e1 : frame1 t = (frameOf t, 0) := by unfold frame1; rw [if_pos h]
    have H1 := Lib.hid (fun W => four_c W t.length (by omega))
    have hh : (headOf t).length = t.length + 4 := by simp [headOf, length_fourL]; omega
    have H2 := Lib.hid (fun W => of_c W (headOf t) (by omega))
    have H3 := Lib.hid (fun W => four_c W (crcOf (headOf t)) (crcOf_lt _))
    rw [e1]
    have ha : (⟨(fourL t.length).toArray⟩ : ByteArray) ++ (⟨t.toArray⟩ : ByteArray) = ⟨(headOf t).toArray⟩ := ba_append _ _
    have hc : (⟨(headOf t).toArray⟩ : ByteArray) ++ (⟨(fourL (crcOf (headOf t))).toArray⟩ : ByteArray) = ⟨(frameOf t).toArray⟩ := ba_append _ _
    have hl1 : (fourL t.length).length ≤ 4 := Nat.le_refl _
    have hl2 : (fourL (crcOf (headOf t))).length ≤ 4 := Nat.le_refl _
    have hl3 : (headOf t).length ≤ t.length + 4 := by omega
    have hw : (t.length : Int) % 4294967296 = t.length := by omega
    clear e1 hh
    go_enter Try.func31, Try.ntmps31
    go_wp2_with fail
    refine (H1.out _).mono ?_
    rintro e w1 ⟨rfl, hk1⟩
    generalize fourL t.length = f1 at *
    generalize headOf t = hd at *
    go_wp2_with fail
    refine (H2.out _).mono ?_
    rintro e w2 ⟨rfl, hk2⟩
    generalize crcOf hd = c at *
    go_wp2_with fail
    refine (H3.out _).mono ?_
    rintro e w3 ⟨rfl, hk3⟩
    generalize fourL c = f2 at *
    go_wp2_with fail
    go_ret2
    exact ⟨rfl, hk1.trans (hk2.trans hk3)⟩
  · have e1 : frame1 t = ([], 4) := by unfold frame1; rw [if_neg h]
    rw [e1]
    clear e1
    have hlt : 65536 < t.length := by omega
    go_enter Try.func31, Try.ntmps31
    go_wp2
    go_ret2
    exact ⟨rfl, Keep.refl _ _⟩
/-- Read: a text, how many bytes, an error -/
def read1 (s : Bs) : Bs × Nat × Int :=
  if s.length < 4 then ([], 0, 40) else if 65536 < numK s 4 then ([], 0, 4) else if s.length < numK s 4 + 8 then ([], 0, 40)
  else if crcOf (s.take (numK s 4 + 4)) = numK (s.drop (numK s 4 + 4)) 4 then ((s.drop 4).take (numK s 4), numK s 4 + 8, 0) else ([], 0, 41)
theorem numK_lt (s : Bs) : numK s 4 < 4294967296 := by
  have h (i : Nat) : (s.getD i 0).toNat < 256 := (s.getD i 0).toNat_lt
  have h0 := h 0; have h1 := h 1; have h2 := h 2; have h3 := h 3
  simp only [numK]
  omega
set_option maxRecDepth 100000 in
theorem fread_c (w : World) (s : Bs) (hs : s.length ≤ 9223372036854775000) : Calls Try.prog 71 #[.string ⟨s.toArray⟩] w fun e w' =>
    e = .returned (.tuple #[.string ⟨(read1 s).1.toArray⟩, .int .i64 (read1 s).2.1, .int .i64 (read1 s).2.2]) ∧ Keep nomod w w' := by
  by_cases h1 : s.length < 4
  · have e1 : read1 s = ([], 0, 40) := by unfold read1; rw [if_pos h1]
    rw [e1]; clear e1
    go_enter Try.func71, Try.ntmps71
    go_wp2
    go_ret3
    exact ⟨rfl, Keep.refl _ _⟩
  · have H1 := Lib.hid (fun W => number_c W s (by omega) (by omega))
    have hk := numK_lt s
    by_cases h2 : 65536 < numK s 4
    · have e1 : read1 s = ([], 0, 4) := by unfold read1; rw [if_neg h1, if_pos h2]
      rw [e1]; clear e1
      generalize numK s 4 = k at *
      go_enter Try.func71, Try.ntmps71
      go_wp2_with fail
      refine (H1.out _).mono ?_
      rintro e w1 ⟨rfl, rfl⟩
      go_wp2_with fail
      go_ret3
      exact ⟨rfl, Keep.refl _ _⟩
    · by_cases h3 : s.length < numK s 4 + 8
      · have e1 : read1 s = ([], 0, 40) := by unfold read1; rw [if_neg h1, if_neg h2, if_pos h3]
        rw [e1]; clear e1
        generalize numK s 4 = k at *
        go_enter Try.func71, Try.ntmps71
        go_wp2_with fail
        refine (H1.out _).mono ?_
        rintro e w1 ⟨rfl, rfl⟩
        go_wp2_with fail
        go_ret3
        exact ⟨rfl, Keep.refl _ _⟩
      · have H2 := Lib.hid (fun W => of_c W (s.take (numK s 4 + 4)) (by rw [List.length_take]; omega))
        have H3 := Lib.hid (fun W => number_c W (s.drop (numK s 4 + 4)) (by rw [List.length_drop]; omega) (by rw [List.length_drop]; omega))
        have hE := Lib.hid (show read1 s = if crcOf (s.take (numK s 4 + 4)) = numK (s.drop (numK s 4 + 4)) 4 then ((s.drop 4).take (numK s 4), numK s 4 + 8, 0) else ([], 0, 41) by unfold read1; rw [if_neg h1, if_neg h2, if_neg h3])
        rw [hE.out]
        clear hE
        have hq := numK_lt (s.drop (numK s 4 + 4))
        have hq2 := crcOf_lt (s.take (numK s 4 + 4))
        generalize numK s 4 = k at *
        have X1 := Lib.hid (fun W => run_sl_to (P := Try.prog) W 9 Try.underlying9 s .i64 (k + 4) (by omega))
        have X2 := Lib.hid (fun W => run_sl_from (P := Try.prog) W 9 Try.underlying9 s .i64 (k + 4) (by omega))
        have X3 := Lib.hid (ba_extract s 4 (k + 4))
        have e3 : (s.drop 4).take (k + 4 - 4) = (s.drop 4).take k := by rw [Nat.add_sub_cancel]
        rw [e3] at X3
        have hk4 : ((k + 4 : Nat) : Int) = (k : Int) + 4 := by omega
        rw [hk4] at X1 X2
        generalize s.take (k + 4) = sa at *
        generalize s.drop (k + 4) = sb at *
        generalize (s.drop 4).take k = sc at *
        generalize crcOf sa = p at *
        generalize numK sb 4 = q at *
        clear hk4 e3
        obtain ⟨r, hr⟩ : ∃ r : Bs × Nat × Int, (if p = q then (sc, k + 8, 0) else ([], 0, 41)) = r := ⟨_, rfl⟩
        have HR := Lib.hid hr
        rw [hr]
        clear hr
        have h3' : ¬ (s.length : Int) < (k : Int) + 8 := by omega
        have hb := h3
        go_enter Try.func71, Try.ntmps71
        go_wp2_with fail
        refine (H1.out _).mono ?_
        rintro e w1 ⟨rfl, rfl⟩
        go_wp2_with fail
        refine wp_region_moves (fun _ => True) [(0, true), (1, true), (2, true), (3, true), (5, true), (6, true), (7, true), (8, true), (4, false), (9, false), (10, true), (11, false)] (by kernel_rfl) (by kernel_rfl) (by kernel_rfl) (fun _ _ _ _ _ h => h) trivial ?_
        simp only [movesOps, List.getElem?_toArray, List.getElem?_cons_zero, List.getElem?_cons_succ]
        refine mv_still (.string ⟨s.toArray⟩) rfl (fun W hS => by go_simp) ?_
        simp only [Act.put, List.setIfInBounds_toArray, List.set_cons_succ, List.set_cons_zero]
        refine mv_still (.int .i64 k) rfl (fun W hS => by go_simp) ?_
        simp only [Act.put, List.setIfInBounds_toArray, List.set_cons_succ, List.set_cons_zero]
        refine mv_still (.int .i64 ((k : Int) + 4)) rfl (fun W hS => by go_simp; exact wrap_in _ (by omega)) ?_
        simp only [Act.put, List.setIfInBounds_toArray, List.set_cons_succ, List.set_cons_zero]
        refine mv_still (.string ⟨sa.toArray⟩) rfl (fun W hS => exec_v (X1.out W)) ?_
        simp only [Act.put, List.setIfInBounds_toArray, List.set_cons_succ, List.set_cons_zero]
        refine mv_still (.string ⟨s.toArray⟩) rfl (fun W hS => by go_simp) ?_
        simp only [Act.put, List.setIfInBounds_toArray, List.set_cons_succ, List.set_cons_zero]
        refine mv_still (.int .i64 k) rfl (fun W hS => by go_simp) ?_
        simp only [Act.put, List.setIfInBounds_toArray, List.set_cons_succ, List.set_cons_zero]
        refine mv_still (.int .i64 ((k : Int) + 4)) rfl (fun W hS => by go_simp; exact wrap_in _ (by omega)) ?_
        simp only [Act.put, List.setIfInBounds_toArray, List.set_cons_succ, List.set_cons_zero]
        refine mv_still (.string ⟨sb.toArray⟩) rfl (fun W hS => exec_v (X2.out W)) ?_
        simp only [Act.put, List.setIfInBounds_toArray, List.set_cons_succ, List.set_cons_zero]
        refine mv_run rfl (fun K hK => ?_)
        go_simp
        go_at_call 53
        refine (H2.out _).mono ?_
        rintro e w2 ⟨rfl, hk2⟩
        refine hK _ _ trivial ?_
        clear hK
        try simp only [Act.put, List.setIfInBounds_toArray, List.set_cons_succ, List.set_cons_zero]
        refine mv_run rfl (fun K hK => ?_)
        go_simp
        go_at_call 82
        refine (H3.out _).mono ?_
        rintro e w3 ⟨rfl, rfl⟩
        refine hK _ _ trivial ?_
        clear hK
        try simp only [Act.put, List.setIfInBounds_toArray, List.set_cons_succ, List.set_cons_zero]
        refine mv_still (.bool ((p : Int) != (q : Int))) rfl (fun W hS => by go_simp) ?_
        simp only [Act.put, List.setIfInBounds_toArray, List.set_cons_succ, List.set_cons_zero]
        refine mv_last rfl (fun K hK => ?_)
        go_simp
        refine hK _ _ ?_
        clear hK
        by_cases hpq : p = q
        · have hne : ((p : Int) != (q : Int)) = false := by simp [hpq]
          have hr := HR.out
          rw [if_pos hpq] at hr
          have HR2 := Lib.hid hr
          clear hpq hr
          go_wp2_with fail
          go_ret3
          exact ⟨by rw [← HR2.out, X3.out]; rfl, (Keep.refl _ w).drew.trans hk2⟩
        · have hne : ((p : Int) != (q : Int)) = true := by simp; omega
          have hr := HR.out
          rw [if_neg hpq] at hr
          have HR2 := Lib.hid hr
          clear hpq hr
          go_wp2_with fail
          go_ret3
          exact ⟨by rw [← HR2.out]; rfl, (Keep.refl _ w).drew.trans hk2⟩
end Go.Proofs.Ytimfgeklnlnniaa
