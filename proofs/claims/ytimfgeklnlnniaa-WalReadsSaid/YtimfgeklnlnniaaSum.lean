/- Checksums. -/
import Derived.Test.YtimfgeklnlnniaaMoves
import Derived.Test.YtimfgeklnlnniaaProg
import Derived.Deep.CutBlock
import Derived.Deep.DeepCutAuto
import Derived.Laws.BitsAllLaws
namespace Go.Proofs.Ytimfgeklnlnniaa
set_option linter.unusedVariables false
set_option linter.unusedSimpArgs false
open Go.RowKit
/-- one bit -/
def crcStep (m : Nat) : Nat := if m % 2 = 1 then (m / 2) ^^^ 2197175160 else m / 2
def crcN : Nat → Nat → Nat
  | 0, c => c
  | k + 1, c => crcStep (crcN k c)
theorem crcStep_lt {m : Nat} (h : m < 4294967296) : crcStep m < 4294967296 := by
  unfold crcStep
  split
  · exact Nat.xor_lt_two_pow (n := 32) (by omega) (by omega)
  · omega
theorem crcN_lt {c : Nat} (h : c < 4294967296) : ∀ k, crcN k c < 4294967296
  | 0 => h
  | k + 1 => crcStep_lt (crcN_lt h k)
set_option maxRecDepth 100000 in
theorem shifted_c (w : World) (c : Nat) (hc : c < 4294967296) :
    Calls Try.prog 88 #[.int .u32 c] w fun e w' => e = .returned (.int .u32 (crcN 8 c : Nat)) ∧ w = w' := by
  go_enter Try.func88, Try.ntmps88
  go_wp2
  go_loop [0, 4] (fun v i => ∃ k m : Nat, k ≤ 8 ∧ i = .int .i64 (k : Int) ∧ v = .int .u32 (m : Int) ∧ m < 4294967296 ∧ Hid (m = crcN k c)) (fun _ i => 8 - (intOf i).toNat)
  case atStart => exact ⟨0, c, by omega, rfl, rfl, hc, rfl⟩
  case round =>
    obtain ⟨k, m, hk, rfl, rfl, hm, HM⟩ := hrel
    by_cases hlt : k < 8
    · have h1 : bits .and .u32 (m : Int) 1 = ((m % 2 : Nat) : Int) := by
        have := u32_and_nat m 1 hm (by omega)
        rw [Nat.and_one_is_mod] at this
        exact this
      by_cases hb : m % 2 = 1
      · have hbit : (bits .and .u32 (m : Int) 1 == 1) = true := by rw [h1, hb]; rfl
        have HX : Hid (bits .xor .u32 ((m : Int) / 2) 2197175160 = ((m / 2 ^^^ 2197175160 : Nat) : Int)) := by
          have := u32_xor_nat (m / 2) 2197175160 (by omega) (by omega)
          exact this
        have HS : Hid (crcStep m = m / 2 ^^^ 2197175160) := by unfold crcStep; rw [if_pos hb]; rfl
        clear h1 hb
        go_wp2
        go_round
        case rel => exact ⟨k + 1, m / 2 ^^^ 2197175160, by omega, by go_num, by rw [HX.out], by rw [← HS.out]; exact crcStep_lt hm, by show _ = crcStep (crcN k c); rw [← HM.out]; exact HS.out.symm⟩
        case measure => simp [intOf]; omega
      · have hbit : (bits .and .u32 (m : Int) 1 == 1) = false := by rw [h1]; simp; omega
        have HS : Hid (crcStep m = m / 2) := by unfold crcStep; rw [if_neg hb]; rfl
        clear h1 hb
        go_wp2
        go_round
        case rel => exact ⟨k + 1, m / 2, by omega, by go_num, by simp, by omega, by show _ = crcStep (crcN k c); rw [← HM.out]; exact HS.out.symm⟩
        case measure => simp [intOf]; omega
    · have hk8 : k = 8 := by omega
      subst hk8
      have hm8 := HM.out
      have HM' := HM
      clear hm8 HM
      go_wp2
      go_ret
      exact ⟨by rw [← HM'.out]; rfl, rfl⟩
/-- the table, as far as k -/
def tabL (k : Nat) : List Value := (List.range 256).map fun i => .int .u32 ((if i < k then crcN 8 i else 0 : Nat) : Int)
theorem length_tabL (k : Nat) : (tabL k).length = 256 := by simp [tabL]
theorem tabL_at (k i : Nat) (h : i < 256) : (tabL k)[i]? = some (.int .u32 ((if i < k then crcN 8 i else 0 : Nat) : Int)) := by
  simp [tabL, List.getElem?_range h]
theorem tabL_one (k : Nat) : ∀ v ∈ tabL k, v.oneCell' = true := by
  intro v hv
  simp only [tabL, List.mem_map] at hv
  obtain ⟨b, _, rfl⟩ := hv
  rfl
theorem tabL_set (k : Nat) (h : k < 256) : (tabL k).set k (.int .u32 (crcN 8 k : Nat)) = tabL (k + 1) := by
  apply List.ext_getElem?
  intro i
  rw [List.getElem?_set, length_tabL]
  by_cases hi : i < 256
  · rw [tabL_at _ _ hi, tabL_at _ _ hi]
    by_cases e : k = i
    · subst e; simp [h]
    · rw [if_neg e]
      have : (i < k + 1) = (i < k) := by apply propext; omega
      simp only [this]
  · rw [List.getElem?_eq_none (by rw [length_tabL]; omega), List.getElem?_eq_none (by rw [length_tabL]; omega), if_neg (by omega)]
theorem zero_tab : Try.zeroCells137 = (tabL 0).toArray := by kernel_rfl
theorem size_tab : (Try.prog.info? 137).map (·.size) = some 256 := by kernel_rfl
set_option maxRecDepth 100000 in
theorem table_c (w : World) : Calls Try.prog 83 #[] w fun e w' => e = .returned (.agg (tabL 256).toArray) ∧ Keep nomod w w' := by
  go_enter Try.func83, Try.ntmps83
  go_wp2
  obtain ⟨nb, hnb⟩ : ∃ nb, w.heap.size = nb := ⟨_, rfl⟩
  have h0 := heap_new w (.cells Try.zeroCells137 137)
  rw [zero_tab, hnb] at h0
  rw [zero_tab, hnb]
  have Hnb := Lib.hid hnb
  clear hnb
  go_loopw [2] (fun i W => ∃ k : Nat, k ≤ 256 ∧ i = .int .i64 (k : Int) ∧ Hid (W.heap[nb]? = some (.cells (tabL k).toArray 137 (0, 0))) ∧ Keep nomod w W) (fun i _ => 256 - (intOf i).toNat)
  case atStart => exact ⟨0, by omega, rfl, h0, (Keep.refl _ w).alloc _⟩
  case round =>
    obtain ⟨k, hk, rfl, HT, HK⟩ := hrel
    clear h0
    by_cases hlt : k < 256
    · have hk32 : (k : Int) % 4294967296 = k := by omega
      have Hc := Lib.hid (shifted_c wr k (by omega))
      have c := cell_at HT.out (i := k) ((List.getElem?_toArray ..).trans (tabL_at k k hlt))
      have f := frozen_at HT.out k
      have HS := Lib.hid (setCell_row (o := k) HT.out (.int .u32 (crcN 8 k : Nat)))
      have hset : (tabL k).toArray.setIfInBounds k (.int .u32 (crcN 8 k : Nat)) = (tabL (k + 1)).toArray := by rw [List.setIfInBounds_toArray, tabL_set k hlt]
      rw [hset] at HS
      have HT3 := Lib.hid (setRow_heap_at HT.out (tabL (k + 1)).toArray)
      have K3 : Keep nomod w (wr.setRow nb (tabL (k + 1)).toArray) := HK.setRow (fun o ho => absurd (heap_lt ho) (by have := Hnb.out; omega)) _
      clear hset
      go_wp2_with (go_at_call 88; refine Hc.out.mono ?_; rintro e w' ⟨rfl, rfl⟩)
      rw [HS.out]
      go_roundw
      case rel => exact ⟨k + 1, by omega, by go_num, HT3, K3⟩
      case measure => simp [intOf]; omega
    · have hk8 : k = 256 := by omega
      subst hk8
      have HLd := Lib.hid (run_loadAt_row (P := Try.prog) (o := 0) 137 _ (tabL 256) HT.out (fun j _ => by rw [Nat.zero_add]) Try.underlying137 rfl (by rw [size_tab, length_tabL]))
      have hst := run_storeAt_row (P := Try.prog) (o := 0) 137 (tabL 256) HT.out (by rw [length_tabL]; omega) (by rw [size_tab, length_tabL]) (tabL_one 256)
      have e1 : spl (tabL 256) 0 (tabL 256) = tabL 256 := by
        unfold spl
        rw [List.drop_eq_nil_of_le (by rw [length_tabL]; omega)]
        simp
      rw [e1, setRow_self wr nb _ _ _ HT.out] at hst
      have Hst := Lib.hid hst
      clear hst e1
      go_upto_region 6 with (fail)
      apply wp_region_lit
      refine ls_same (.agg (tabL 256).toArray) rfl (exec_v HLd.out) ?_
      simp only [Act.put, List.setIfInBounds_toArray, List.set_cons_succ, List.set_cons_zero]
      refine ls_unit rfl (exec_u Hst.out) ?_
      simp only [Act.put, List.setIfInBounds_toArray, List.set_cons_succ, List.set_cons_zero]
      apply wpList_nil
      go_wp2
      refine bodyPost_ret (v := .agg (tabL 256).toArray) (results_cell_row rfl _ _ nb _ _ _ _ rfl HT.out Try.underlying137 rfl (by rw [size_tab]; simp [length_tabL])) rfl ⟨rfl, HK⟩
/-- one byte more -/
def crcB (c : Nat) (x : UInt8) : Nat := (c / 256) ^^^ crcN 8 ((c % 256) ^^^ x.toNat)
def crcMore (c : Nat) (s : Bs) : Nat := s.foldl crcB c
theorem xor_byte (a b : Nat) (ha : a < 256) (hb : b < 256) : a ^^^ b < 256 := Nat.xor_lt_two_pow (n := 8) ha hb
theorem crcB_lt {c : Nat} (h : c < 4294967296) (x : UInt8) : crcB c x < 4294967296 :=
  Nat.xor_lt_two_pow (n := 32) (by omega) (crcN_lt (by have := xor_byte (c % 256) x.toNat (by omega) x.toNat_lt; omega) 8)
theorem crcMore_snoc (c : Nat) (s : Bs) (x : UInt8) : crcMore c (s ++ [x]) = crcB (crcMore c s) x := by simp [crcMore]
theorem crcMore_lt {c : Nat} (h : c < 4294967296) (s : Bs) : crcMore c s < 4294967296 := by
  induction s generalizing c with
  | nil => exact h
  | cons x r ih => exact ih (crcB_lt h x)
def crcOf (s : Bs) : Nat := 4294967295 - crcMore 4294967295 s
theorem run_store_tab (w : World) :
    (storeCells ⟨w.heap.size, 0, none⟩ (tabL 256) 0).run Try.prog (w.alloc (.cells Try.zeroCells137 137)) = .ok () (w.alloc (.cells (tabL 256).toArray 137)) := by
  rw [zero_tab]
  exact run_storeCells_new w 137 (tabL 0).toArray (tabL 256).toArray (by rw [size_tab]; simp [length_tabL]) (by simp [length_tabL]) (all_oneCell_toArray (tabL_one 256))
theorem not_u32 (m : Nat) (h : m < 4294967296) : bits .xor .u32 IntKind.u32.max (m : Int) = ((4294967295 - m : Nat) : Int) := by
  have e : IntKind.u32.max = ((4294967295 : Nat) : Int) := by kernel_rfl
  rw [e, u32_xor_nat 4294967295 m (by omega) h]
  have h1 : BitVec.allOnes 32 ^^^ BitVec.ofNat 32 m = ~~~ (BitVec.ofNat 32 m) := by rw [BitVec.xor_comm]; exact BitVec.xor_allOnes
  have h2 := congrArg BitVec.toNat h1
  rw [BitVec.toNat_xor, BitVec.toNat_not, BitVec.toNat_allOnes, BitVec.toNat_ofNat, Nat.mod_eq_of_lt (show m < 2 ^ 32 by omega)] at h2
  have h3 : (2 : Nat) ^ 32 - 1 = 4294967295 := by omega
  rw [h3] at h2
  rw [h2]
theorem u8_xor (m : Nat) (x : UInt8) : bits .xor .u8 ((m : Int) % 256) (x.toNat : Int) = ((m % 256 ^^^ x.toNat : Nat) : Int) := by
  have := u8_xor_nat (m % 256) x.toNat (by omega) x.toNat_lt
  exact this
set_option maxRecDepth 100000 in
theorem more_c (w : World) (s : Bs) (hs : s.length ≤ 9223372036854775807) : Calls Try.prog 72 #[.int .u32 0, .string ⟨s.toArray⟩] w fun e w' => e = .returned (.int .u32 (crcOf s : Nat)) ∧ Keep nomod w w' := by
  have Ht := Lib.hid (table_c w)
  have hst := run_store_tab
  have hnot : bits .xor .u32 IntKind.u32.max 0 = 4294967295 := by kernel_rfl
  go_enter Try.func72, Try.ntmps72
  go_wp2_with (go_at_call 83; refine Ht.out.mono ?_; rintro e w1 ⟨rfl, hk1⟩)
  obtain ⟨nb, hnb⟩ : ∃ nb, w1.heap.size = nb := ⟨_, rfl⟩
  have h0 := heap_new w1 (.cells (tabL 256).toArray 137)
  have k1 := hk1.alloc (.cells (tabL 256).toArray 137)
  rw [hnb] at h0
  rw [hnb]
  generalize w1.alloc (.cells (tabL 256).toArray 137) = W1 at *
  clear hnb hk1
  have H0 := Lib.hid h0
  clear h0 hst hnot
  go_loop [6, 13] (fun c i => ∃ k m : Nat, k ≤ s.length ∧ i = .int .i64 (k : Int) ∧ c = .int .u32 (m : Int) ∧ m < 4294967296 ∧ Hid (m = crcMore 4294967295 (s.take k))) (fun _ i => s.length - (intOf i).toNat)
  case atStart => exact ⟨0, 4294967295, by omega, rfl, rfl, by omega, rfl⟩
  case round =>
    obtain ⟨k, m, hk, rfl, rfl, hm, HM⟩ := hrel
    by_cases hlt : k < s.length
    · obtain ⟨x, hx⟩ : ∃ x, s[k]'hlt = x := ⟨_, rfl⟩
      have hby : (⟨s.toArray⟩ : ByteArray)[k]'(by show k < s.toArray.size; simpa using hlt) = x := hx
      obtain ⟨j, hj⟩ : ∃ j, m % 256 ^^^ x.toNat = j := ⟨_, rfl⟩
      have hj2 : j < 256 := by rw [← hj]; exact xor_byte _ _ (by omega) x.toNat_lt
      have h8 := u8_xor m x
      rw [hj] at h8
      obtain ⟨t, ht⟩ : ∃ t, crcN 8 j = t := ⟨_, rfl⟩
      have ht2 : t < 4294967296 := by rw [← ht]; exact crcN_lt (by omega) 8
      have hcell : W1.cell? ⟨nb, j, none⟩ = some (.int .u32 (t : Int)) := cell_at H0.out ((List.getElem?_toArray ..).trans (by rw [tabL_at 256 j hj2, if_pos hj2, ht]))
      have HX : Hid (bits .xor .u32 ((m : Int) / 256) (t : Int) = ((m / 256 ^^^ t : Nat) : Int)) := by
        have := u32_xor_nat (m / 256) t (by omega) ht2
        exact this
      have HS : Hid (m / 256 ^^^ t = crcMore 4294967295 (s.take (k + 1))) := by
        show m / 256 ^^^ t = _
        have e : s.take (k + 1) = s.take k ++ [x] := by rw [List.take_add_one, List.getElem?_eq_getElem hlt, hx]; rfl
        rw [e, crcMore_snoc, ← HM.out, crcB, hj, ht]
      have hlt2 : m / 256 ^^^ t < 4294967296 := Nat.xor_lt_two_pow (n := 32) (by omega) ht2
      clear hx hj ht
      go_wp2
      go_round
      case rel => exact ⟨k + 1, m / 256 ^^^ t, by omega, by go_num, by rw [HX.out], hlt2, HS⟩
      case measure => simp [intOf]; omega
    · have hkk : k = s.length := by omega
      have hn := not_u32 m hm
      have HN := Lib.hid hn
      have HF : Hid (crcOf s = 4294967295 - m) := by
        show crcOf s = _
        rw [HM.out, hkk, List.take_of_length_le (Nat.le_refl _)]; rfl
      clear hkk
      go_wp2
      go_ret
      exact ⟨by rw [HF.out]; rfl, k1⟩
end Go.Proofs.Ytimfgeklnlnniaa
