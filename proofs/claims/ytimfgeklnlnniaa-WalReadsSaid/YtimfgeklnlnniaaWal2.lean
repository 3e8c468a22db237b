/- The log, part 2: the blocks of a stream. -/
import Derived.Test.YtimfgeklnlnniaaWal
import Derived.Test.YtimfgeklnlnniaaFrame2
import Derived.Test.YtimfgeklnlnniaaStrs
namespace Go.Proofs.Ytimfgeklnlnniaa
set_option linter.unusedVariables false
set_option linter.unusedSimpArgs false
open Go.RowKit
attribute [local go_sem] ba_append
def partB (s : Bs) (k : Nat) : Bs := (s.drop (k * 255)).take 255
theorem length_partB (s : Bs) (k : Nat) : (partB s k).length ≤ 255 := by simp [partB]; omega
def laidB (s : Bs) (k : Nat) : Bs := (partB s k ++ List.replicate (255 - (partB s k).length) 0) ++ [UInt8.ofNat (partB s k).length]
theorem length_laidB (s : Bs) (k : Nat) : (laidB s k).length = 256 := by
  have := length_partB s k
  simp [laidB]; omega
theorem laid_c (w : World) (s : Bs) : Calls Try.prog 26 #[.string ⟨s.toArray⟩] w fun e w' =>
    e = .returned (.func (.func 51) #[] #[.pointer (some ⟨w.heap.size, 0, none⟩)]) ∧ w' = w.alloc (.cells #[.string ⟨s.toArray⟩] 9) := by
  go_enter Try.func26, Try.ntmps26
  go_wp2
  go_ret
  exact ⟨rfl, rfl⟩
theorem exec_convert {P : Program} {ρ : Operand → Value} {o : Oper} {t u : TypeId} {x : Operand} {v r : Value} {w w' : World} (ho : o.op = .convert t u x) (hx : ρ x = v)
    (h : (convert t u v).run P w = .ok r w') : (execOp ρ o).run P w = .ok (.value r) w' := by
  unfold execOp
  simp only [ho, hx]
  exact exec_v h
theorem info_u80 : (Try.prog.info? 5).map (fun i => (i.zero, i.size, i.bytes)) = some (some (.int .u8 0), 1, 1) := by kernel_rfl
theorem info_u8 : ∃ i0, Try.prog.info? 5 = some i0 ∧ i0.zero = some (.int .u8 0) ∧ i0.size = 1 ∧ i0.bytes = 1 := by
  have h := info_u80
  cases hi : Try.prog.info? 5 with
  | none => rw [hi] at h; cases h
  | some i =>
    rw [hi] at h
    simp only [Option.map_some, Option.some.injEq, Prod.mk.injEq] at h
    exact ⟨i, rfl, h.1, h.2.1, h.2.2⟩
theorem run_slice_u8 (w : World) (n : Int) :
    (Instr.buildSlice 83 1 #[(0, .int .u8 n)]).run Try.prog w = .ok (.slice (some ⟨w.heap.size, 0, none⟩) 1 1) (w.alloc (.cells #[.int .u8 n] 5)) := by
  obtain ⟨i0, hi, hz, h1, _⟩ := info_u8
  exact run_buildSlice_v 83 5 i0 _ Try.underlying83 hi hz (.int .u8 n) [.int .u8 n] rfl (by rw [h1]; rfl) (by simp) (by simp) w
theorem run_conv_u8 (w : World) (g n : Nat) (hn : n < 256) (h : w.heap[g]? = some (.cells #[.int .u8 (n : Int)] 5 (0, 0))) :
    (convert 83 9 (.slice (some ⟨g, 0, none⟩) 1 1)).run Try.prog w = .ok (.string ⟨[UInt8.ofNat n].toArray⟩) w := by
  have e : (#[Value.int .u8 (n : Int)] : Array Value) = (cellsOf [UInt8.ofNat n]).toArray := by
    simp [cellsOf, u8, UInt8.toNat_ofNat']; omega
  rw [e] at h
  exact run_bytes_string (P := Try.prog) _ 83 9 5 Try.underlying83 Try.underlying5 Try.underlying9 g 0 1 [UInt8.ofNat n] (rangeAt_of_list h _ (fun j _ => by rw [Nat.zero_add]))
set_option maxRecDepth 100000 in
set_option maxHeartbeats 1000000 in
theorem laid1_c (w : World) (bn : Nat) (s : Bs) (k : Nat) (hs : s.length ≤ 1000000000) (hk : k ≤ 1000000) (hb : w.heap[bn]? = some (.cells #[.string ⟨s.toArray⟩] 9 (0, 0))) :
    Calls Try.prog 51 #[.int .i64 k, .pointer (some ⟨bn, 0, none⟩)] w fun e w' => e = .returned (.string ⟨(laidB s k).toArray⟩) ∧ Keep nomod w w' := by
  have hc := cell_at (i := 0) hb rfl
  obtain ⟨lo, hlo⟩ : ∃ lo : Nat, lo = min (k * 255) s.length := ⟨_, rfl⟩
  obtain ⟨hi, hhi⟩ : ∃ hi : Nat, hi = min (lo + 255) s.length := ⟨_, rfl⟩
  have hm1 : min ((k : Int) * 255) (s.length : Int) = (lo : Int) := by omega
  have hm2 : min ((lo : Int) + 255) (s.length : Int) = (hi : Int) := by omega
  have hw1 := wrap_in ((k : Int) * 255) (by omega)
  have hw2 := wrap_in ((lo : Int) + 255) (by omega)
  have ht : (s.drop lo).take (hi - lo) = partB s k := by
    unfold partB
    by_cases h : k * 255 ≤ s.length
    · have : lo = k * 255 := by omega
      rw [this]
      by_cases h2 : k * 255 + 255 ≤ s.length
      · have : hi - k * 255 = 255 := by omega
        rw [this]
      · rw [List.take_of_length_le (by rw [List.length_drop]; omega), List.take_of_length_le (by rw [List.length_drop]; omega)]
    · rw [List.drop_eq_nil_of_le (by omega), List.drop_eq_nil_of_le (by omega)]; simp
  have hext : (⟨s.toArray⟩ : ByteArray).extract (min (k * 255) s.length) (min (((min (k * 255) s.length : Nat) : Int) + 255) (s.length : Int)).toNat = ⟨(partB s k).toArray⟩ := by
    have e : (min (((min (k * 255) s.length : Nat) : Int) + 255) (s.length : Int)).toNat = hi := by omega
    rw [e, ← hlo, ba_extract, ht]
  have Hext := Lib.hid hext
  clear hext
  have hl := length_partB s k
  obtain ⟨c, hcc⟩ : ∃ c : Nat, c + (partB s k).length = 255 := ⟨255 - (partB s k).length, by omega⟩
  have HL : Hid (laidB s k = partB s k ++ (List.replicate c 0 ++ [UInt8.ofNat (partB s k).length])) := by
    have : c = 255 - (partB s k).length := by omega
    subst this; show _ = _; rw [laidB, List.append_assoc]
  have HR := Lib.hid (fun W => rep_c W c (by omega))
  have hzl : (List.replicate c (0 : UInt8)).length = c := List.length_replicate ..
  generalize List.replicate c (0 : UInt8) = z at *
  generalize partB s k = t at *
  clear ht
  go_enter Try.func51, Try.ntmps51
  go_wp2
  rw [Hext.out]
  clear hm1 hm2 hw1 hw2 hhi hlo Hext
  refine wp_region_mv (fun _ _ => True) (.still 0 (.still 1 (.still 2 (.still 3 (.still 6 (.still 7 (.still 8 (.alt 4 [0, 5, 6, 7, 8, 11] (.still 5 (.act 9 [0, 5, 11] (.act 10 [0, 5, 11] (.still 11 (.act 12 [] (.fin)))))) (.act 9 [0, 1, 2, 3, 5, 11] (.alt 4 [0, 5, 11] (.still 5 (.act 10 [0, 5, 11] (.still 11 (.act 12 [] (.fin))))) (.act 10 [0, 1, 2, 3, 5, 11] (.act 4 [0, 5, 11] (.still 5 (.still 11 (.act 12 [] (.fin))))))))))))))))
    (by kernel_rfl) (by kernel_rfl) (by kernel_rfl) (fun _ _ _ _ _ h => h) (fun _ => trivial) ?_
  refine m3_still _ (.string ⟨t.toArray⟩) rfl rfl (fun W hS => by go_simp) ?_
  simp only [List.getElem_toArray, List.getElem_cons_succ, List.getElem_cons_zero, Act.put, List.setIfInBounds_toArray, List.set_cons_succ, List.set_cons_zero]
  refine m3_still _ (.string ⟨t.toArray⟩) rfl rfl (fun W hS => by go_simp) ?_
  simp only [List.getElem_toArray, List.getElem_cons_succ, List.getElem_cons_zero, Act.put, List.setIfInBounds_toArray, List.set_cons_succ, List.set_cons_zero]
  refine m3_still _ (.int .i64 t.length) rfl rfl (fun W hS => by go_simp) ?_
  simp only [List.getElem_toArray, List.getElem_cons_succ, List.getElem_cons_zero, Act.put, List.setIfInBounds_toArray, List.set_cons_succ, List.set_cons_zero]
  refine m3_still _ (.int .i64 c) rfl rfl (fun W hS => by go_simp; rw [wrap_in _ (by omega)]; omega) ?_
  simp only [List.getElem_toArray, List.getElem_cons_succ, List.getElem_cons_zero, Act.put, List.setIfInBounds_toArray, List.set_cons_succ, List.set_cons_zero]
  refine m3_still _ (.string ⟨t.toArray⟩) rfl rfl (fun W hS => by go_simp) ?_
  simp only [List.getElem_toArray, List.getElem_cons_succ, List.getElem_cons_zero, Act.put, List.setIfInBounds_toArray, List.set_cons_succ, List.set_cons_zero]
  refine m3_still _ (.int .i64 t.length) rfl rfl (fun W hS => by go_simp) ?_
  simp only [List.getElem_toArray, List.getElem_cons_succ, List.getElem_cons_zero, Act.put, List.setIfInBounds_toArray, List.set_cons_succ, List.set_cons_zero]
  refine m3_still _ (.int .u8 t.length) rfl rfl (fun W hS => by go_simp; rw [IntKind.wrap_u8]; omega) ?_
  simp only [List.getElem_toArray, List.getElem_cons_succ, List.getElem_cons_zero, Act.put, List.setIfInBounds_toArray, List.set_cons_succ, List.set_cons_zero]
  refine m3_alt ?_ ?_
  · skip
    refine m3_act _ rfl rfl (fun K hK => ?_)
    simp only [List.getElem_toArray, List.getElem_cons_succ, List.getElem_cons_zero, Act.put, List.setIfInBounds_toArray, List.set_cons_succ, List.set_cons_zero]
    go_simp
    go_at_call 34
    refine (HR.out _).mono ?_
    rintro e w1 ⟨rfl, hk1⟩
    refine hK _ _ (fun _ _ => trivial) ?_
    clear hK
    try simp only [List.getElem_toArray, List.getElem_cons_succ, List.getElem_cons_zero, Act.put, List.setIfInBounds_toArray, List.set_cons_succ, List.set_cons_zero]
    refine m3_still _ (.string ⟨(t ++ z).toArray⟩) rfl rfl (fun W hS => by go_simp <;> omega) ?_
    simp only [List.getElem_toArray, List.getElem_cons_succ, List.getElem_cons_zero, Act.put, List.setIfInBounds_toArray, List.set_cons_succ, List.set_cons_zero]
    refine m3_act _ rfl rfl (fun K hK => wp_value (exec_buildSlice1 rfl rfl (run_slice_u8 _ _)) (hK _ _ (fun _ _ => trivial) ?_))
    simp only [List.getElem_toArray, List.getElem_cons_succ, List.getElem_cons_zero, Act.put, List.setIfInBounds_toArray, List.set_cons_succ, List.set_cons_zero]
    refine m3_act _ rfl rfl (fun K hK => wp_value (exec_convert rfl rfl (run_conv_u8 _ _ t.length (by omega) (heap_new _ _))) (hK _ _ (fun _ _ => trivial) ?_))
    simp only [List.getElem_toArray, List.getElem_cons_succ, List.getElem_cons_zero, Act.put, List.setIfInBounds_toArray, List.set_cons_succ, List.set_cons_zero]
    refine m3_still _ (.string ⟨(t ++ (z ++ [UInt8.ofNat t.length])).toArray⟩) rfl rfl (fun W hS => by go_simp <;> omega) ?_
    simp only [List.getElem_toArray, List.getElem_cons_succ, List.getElem_cons_zero, Act.put, List.setIfInBounds_toArray, List.set_cons_succ, List.set_cons_zero]
    refine m3_act _ rfl rfl (fun K hK => ?_)
    simp only [List.getElem_toArray, List.getElem_cons_succ, List.getElem_cons_zero, Act.put, List.setIfInBounds_toArray, List.set_cons_succ, List.set_cons_zero]
    go_simp
    refine hK _ _ (fun _ h => (by cases h)) ?_
    clear hK
    refine m3_end ?_
    go_wp2
    go_ret
    exact ⟨by rw [← HL.out]; rfl, (Keep.refl _ w).drew.trans (hk1.alloc _)⟩
  · skip
    refine m3_act _ rfl rfl (fun K hK => wp_value (exec_buildSlice1 rfl rfl (run_slice_u8 _ _)) (hK _ _ (fun _ _ => trivial) ?_))
    simp only [List.getElem_toArray, List.getElem_cons_succ, List.getElem_cons_zero, Act.put, List.setIfInBounds_toArray, List.set_cons_succ, List.set_cons_zero]
    refine m3_alt ?_ ?_
    · skip
      refine m3_act _ rfl rfl (fun K hK => ?_)
      simp only [List.getElem_toArray, List.getElem_cons_succ, List.getElem_cons_zero, Act.put, List.setIfInBounds_toArray, List.set_cons_succ, List.set_cons_zero]
      go_simp
      go_at_call 34
      refine (HR.out _).mono ?_
      rintro e w1 ⟨rfl, hk1⟩
      refine hK _ _ (fun _ _ => trivial) ?_
      clear hK
      try simp only [List.getElem_toArray, List.getElem_cons_succ, List.getElem_cons_zero, Act.put, List.setIfInBounds_toArray, List.set_cons_succ, List.set_cons_zero]
      refine m3_still _ (.string ⟨(t ++ z).toArray⟩) rfl rfl (fun W hS => by go_simp <;> omega) ?_
      simp only [List.getElem_toArray, List.getElem_cons_succ, List.getElem_cons_zero, Act.put, List.setIfInBounds_toArray, List.set_cons_succ, List.set_cons_zero]
      refine m3_act _ rfl rfl (fun K hK => wp_value (exec_convert rfl rfl (run_conv_u8 _ _ t.length (by omega) (hk1.block _ _ (heap_new _ _) (fun e => e)))) (hK _ _ (fun _ _ => trivial) ?_))
      simp only [List.getElem_toArray, List.getElem_cons_succ, List.getElem_cons_zero, Act.put, List.setIfInBounds_toArray, List.set_cons_succ, List.set_cons_zero]
      refine m3_still _ (.string ⟨(t ++ (z ++ [UInt8.ofNat t.length])).toArray⟩) rfl rfl (fun W hS => by go_simp <;> omega) ?_
      simp only [List.getElem_toArray, List.getElem_cons_succ, List.getElem_cons_zero, Act.put, List.setIfInBounds_toArray, List.set_cons_succ, List.set_cons_zero]
      refine m3_act _ rfl rfl (fun K hK => ?_)
      simp only [List.getElem_toArray, List.getElem_cons_succ, List.getElem_cons_zero, Act.put, List.setIfInBounds_toArray, List.set_cons_succ, List.set_cons_zero]
      go_simp
      refine hK _ _ (fun _ h => (by cases h)) ?_
      clear hK
      refine m3_end ?_
      go_wp2
      go_ret
      exact ⟨by rw [← HL.out]; rfl, ((Keep.refl _ w).drew.alloc _).trans hk1⟩
    · skip
      refine m3_act _ rfl rfl (fun K hK => wp_value (exec_convert rfl rfl (run_conv_u8 _ _ t.length (by omega) (heap_new _ _))) (hK _ _ (fun _ _ => trivial) ?_))
      simp only [List.getElem_toArray, List.getElem_cons_succ, List.getElem_cons_zero, Act.put, List.setIfInBounds_toArray, List.set_cons_succ, List.set_cons_zero]
      refine m3_act _ rfl rfl (fun K hK => ?_)
      simp only [List.getElem_toArray, List.getElem_cons_succ, List.getElem_cons_zero, Act.put, List.setIfInBounds_toArray, List.set_cons_succ, List.set_cons_zero]
      go_simp
      go_at_call 34
      refine (HR.out _).mono ?_
      rintro e w1 ⟨rfl, hk1⟩
      refine hK _ _ (fun _ _ => trivial) ?_
      clear hK
      try simp only [List.getElem_toArray, List.getElem_cons_succ, List.getElem_cons_zero, Act.put, List.setIfInBounds_toArray, List.set_cons_succ, List.set_cons_zero]
      refine m3_still _ (.string ⟨(t ++ z).toArray⟩) rfl rfl (fun W hS => by go_simp <;> omega) ?_
      simp only [List.getElem_toArray, List.getElem_cons_succ, List.getElem_cons_zero, Act.put, List.setIfInBounds_toArray, List.set_cons_succ, List.set_cons_zero]
      refine m3_still _ (.string ⟨(t ++ (z ++ [UInt8.ofNat t.length])).toArray⟩) rfl rfl (fun W hS => by go_simp <;> omega) ?_
      simp only [List.getElem_toArray, List.getElem_cons_succ, List.getElem_cons_zero, Act.put, List.setIfInBounds_toArray, List.set_cons_succ, List.set_cons_zero]
      refine m3_act _ rfl rfl (fun K hK => ?_)
      simp only [List.getElem_toArray, List.getElem_cons_succ, List.getElem_cons_zero, Act.put, List.setIfInBounds_toArray, List.set_cons_succ, List.set_cons_zero]
      go_simp
      refine hK _ _ (fun _ h => (by cases h)) ?_
      clear hK
      refine m3_end ?_
      go_wp2
      go_ret
      exact ⟨by rw [← HL.out]; rfl, ((Keep.refl _ w).drew.alloc _).trans hk1⟩
end Go.Proofs.Ytimfgeklnlnniaa
