/- A disk of blocks, part 2. -/
import Derived.Test.YtimfgeklnlnniaaDisk
namespace Go.Proofs.Ytimfgeklnlnniaa
set_option linter.unusedVariables false
set_option linter.unusedSimpArgs false
open Go.RowKit
set_option linter.unusedSectionVars false
variable [Floor]
def DK.fused (D : DK) (n : Int) : DK := { D with fuse := if 0 ≤ n then some n.toNat else none }
theorem fuse_disk (w : World) (b : Nat) (D : DK) (h : IsDisk w b D) (n : Int) (hn : n ≤ 9223372036854775807) :
    Calls Try.prog 42 #[.pointer (some ⟨b, 0, none⟩), .int .i64 n] w fun e w' => e = .returned (.int .i64 0) ∧ IsDisk w' b (D.fused n) ∧ Keep (mods diskT) w w' := by
  obtain ⟨bs, lv, lf, hb, hf, hs, hl, hbb⟩ := h.lies
  have c2 := cell_at hb (i := 2) rfl
  have c3 := cell_at hb (i := 3) rfl
  have f2 := frozen_at hb 2
  have f3 := frozen_at hb 3
  have fin : IsDisk ((w.setCell ⟨b, 2, none⟩ (.bool (decide (0 ≤ n)))).setCell ⟨b, 3, none⟩ (.int .i64 n)) b (D.fused n) ∧ Keep (mods diskT) w ((w.setCell ⟨b, 2, none⟩ (.bool (decide (0 ≤ n)))).setCell ⟨b, 3, none⟩ (.int .i64 n)) := by
    have hk : Keep (mods [78]) w ((w.setCell ⟨b, 2, none⟩ (.bool (decide (0 ≤ n)))).setCell ⟨b, 3, none⟩ (.int .i64 n)) :=
      ((Keep.refl _ w).setCell (p := ⟨b, 2, none⟩) (fun o ho => by rw [hb] at ho; cases ho; exact ⟨by simp [tagOf], h.fl⟩) _).setCell (p := ⟨b, 3, none⟩) (fun o ho => by rw [hb] at ho; cases ho; exact ⟨by simp [tagOf], h.fl⟩) _
    have h1 := heap_setCell_block (o := 2) hb (.bool (decide (0 ≤ n)))
    have h2 := heap_setCell_block (o := 3) h1 (.int .i64 n)
    refine ⟨⟨⟨h.ok.len, h.ok.lens, h.ok.pos, h.ok.le, fun m hm => ?_⟩, h.fl, bs, lv, n, ?_, fun m hm => ?_, hk.cells hs (by decide), ownsRow_mods hl hk (by decide), hbb⟩, hk.mods_mono (by decide)⟩
    · simp only [DK.fused] at hm; split at hm <;> simp at hm; omega
    · rw [h2]
      have : (if 0 ≤ n then some n.toNat else none).isSome = decide (0 ≤ n) := by by_cases h0 : 0 ≤ n <;> simp [h0]
      simp [DK.fused, this]
    · simp only [DK.fused] at hm; split at hm <;> simp at hm; omega
  have Fin := Lib.hid fin
  clear fin hf hl hs
  go_enter Try.func42, Try.ntmps42
  go_wp2_with (go_at_call 47; refine (none_disk _ _ D h).mono ?_; rintro e w' ⟨rfl, rfl⟩)
  go_ret
  exact ⟨rfl, Fin.out⟩
theorem new_no (w : World) (n : Int) (hn : n < 1 ∨ 4096 < n) : Calls Try.prog 12 #[.int .i64 n] w fun e w' => e = .returned (.tuple #[.pointer none, .int .i64 2]) ∧ w = w' := by
  rcases hn with hn | hn
  · go_enter Try.func12, Try.ntmps12
    go_wp2
    go_ret2
    exact ⟨rfl, rfl⟩
  · have : ¬ n < 1 := by omega
    go_enter Try.func12, Try.ntmps12
    go_wp2
    go_ret2
    exact ⟨rfl, rfl⟩
/-- so many bytes 0 -/
def zbs (n : Nat) : Bs := List.replicate n 0
theorem length_zbs (n : Nat) : (zbs n).length = n := List.length_replicate
theorem cells_zbs (n : Nat) : cellsOf (zbs n) = zs n := by simp only [cellsOf, zbs, zs, List.map_replicate]
def newDK (n : Nat) : DK := { S := List.replicate n (zbs 256), L := [], fuse := none }
theorem newDK_S (n : Nat) : (newDK n).S.length = n := List.length_replicate
theorem flatS_new (n : Nat) : flatS (newDK n).S = zs (n * 256) := by
  simp only [flatS, newDK, zs]
  induction n with
  | zero => rfl
  | succ n ih =>
    rw [List.replicate_succ, List.flatMap_cons, ih, cells_zbs, zs, List.replicate_append_replicate]
    congr 1
    omega
theorem zs_succ (n : Nat) : (zs n).toArray = (List.replicate n (u8 0)).toArray := rfl
theorem run_make_bytes (w : World) (n : Nat) (h : n ≤ 4096) : (Instr.makeSlice 75 (.int .i64 (n : Int)) (.int .i64 (n : Int))).run Try.prog w =
    .ok (.slice (some ⟨w.heap.size, 0, none⟩) n n) (w.alloc (.cells (zs (n * 256)).toArray 80)) := by
  have hz := info_bytes_zero
  have hs := info_bytes
  cases hi : Try.prog.info? 80 with
  | none => rw [hi] at hz; cases hz
  | some i =>
    rw [hi] at hz hs
    have hz' : i.zero = some (.agg (zs 256).toArray) := Option.some.inj hz
    have hs' : i.size = 256 ∧ i.bytes = 256 := by have := Option.some.inj hs; exact ⟨congrArg Prod.fst this, congrArg Prod.snd this⟩
    have hr := run_make_rowN (P := Try.prog) 75 80 i _ Try.underlying75 hi hz' .i64 .i64 n n (Nat.le_refl _) (by rw [hs'.2]; omega) (by omega) w
    rw [hr, hs'.1]
    have : (Value.agg (zs 256).toArray).cells = (List.replicate 256 (u8 0)).toArray := rfl
    rw [this, madeCells_const _ _ _ (by omega)]
    rfl
theorem new_yes (w : World) (n : Nat) (h1 : 1 ≤ n) (h2 : n ≤ 4096) (hfl : Floor.b ≤ w.heap.size) : Calls Try.prog 12 #[.int .i64 n] w fun e w' =>
    e = .returned (.tuple #[.pointer (some ⟨w.heap.size + 1, 0, none⟩), .int .i64 0]) ∧ IsDisk w' (w.heap.size + 1) (newDK n) ∧ Keep nomod w w' := by
  have hmk := fun W => run_make_bytes W n h2
  have fin : IsDisk ((w.alloc (.cells (zs (n * 256)).toArray 80)).alloc (.cells #[.slice (some ⟨w.heap.size, 0, none⟩) n n, .slice none 0 0, .bool false, .int .i64 0] 78)) (w.heap.size + 1) (newDK n) ∧
      Keep nomod w ((w.alloc (.cells (zs (n * 256)).toArray 80)).alloc (.cells #[.slice (some ⟨w.heap.size, 0, none⟩) n n, .slice none 0 0, .bool false, .int .i64 0] 78)) := by
    refine ⟨⟨⟨?_, ?_, ?_, ?_, ?_⟩, Nat.le_succ_of_le hfl, w.heap.size, .slice none 0 0, 0, ?_, ?_, ?_, ?_, hfl⟩, ((Keep.refl _ w).alloc _).alloc _⟩
    · intro x hx; rw [List.eq_of_mem_replicate hx]; exact length_zbs 256
    · intro x hx; cases hx
    · rw [newDK_S]; omega
    · rw [newDK_S]; omega
    · intro m hm; cases hm
    · rw [newDK_S]; exact heap_new_at (by simp) _
    · intro m hm; cases hm
    · rw [flatS_new]; exact heap_old (heap_new w _) _
    · exact World.ownsRow_nil _ _ _ _
  have Fin := Lib.hid fin
  clear fin
  go_enter Try.func12, Try.ntmps12
  go_wp2
  go_ret2
  exact ⟨rfl, Fin.out⟩
end Go.Proofs.Ytimfgeklnlnniaa
