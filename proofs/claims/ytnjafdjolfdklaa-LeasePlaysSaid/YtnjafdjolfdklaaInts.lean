/- Slices of numbers that the call makes. No statement of the seat is proved here. -/
import Derived.Test.YtnjafdjolfdklaaBase
import Derived.Test.YtnjafdjolfdklaaProg
import Derived.Lib.BufferWrite
import Derived.Deep.AppendLies
namespace Go.Proofs.Ytnjafdjolfdklaa
set_option linter.unusedVariables false
set_option linter.unusedSimpArgs false
open Go.RowKit
def cellsI (l : List Int) : List Value := l.map fun x => .int .i64 x
theorem length_cellsI (l : List Int) : (cellsI l).length = l.length := List.length_map ..
theorem cellsI_append (a b : List Int) : cellsI (a ++ b) = cellsI a ++ cellsI b := List.map_append ..
theorem info_intI0 : (Try.prog.info? 3).map (fun i => (i.zero, i.size, i.bytes)) = some (some (.int .i64 0), 1, 8) := by kernel_rfl
theorem info_intI : ∃ i0, Try.prog.info? 3 = some i0 ∧ i0.zero = some (.int .i64 0) ∧ i0.size = 1 ∧ i0.bytes = 8 := by
  have h := info_intI0
  cases hi : Try.prog.info? 3 with
  | none => rw [hi] at h; cases h
  | some i =>
    rw [hi] at h
    simp only [Option.map_some, Option.some.injEq, Prod.mk.injEq] at h
    exact ⟨i, rfl, h.1, h.2.1, h.2.2⟩
theorem run_buildSlice_w {P : Program} (t e : TypeId) (i : TypeInfo) (z : Value) (ht : P.underlying t = some (.slice e)) (hi : P.info? e = some i) (hz : i.zero = some z) (x : Value) (cs : List Value) (hx : x.cells = cs.toArray)
    (hs : i.size = cs.length) (h0 : 0 < cs.length) (hle : cs.length ≤ 16777216) (w : World) :
    (Instr.buildSlice t 1 #[(0, x)]).run P w = .ok (.slice (some ⟨w.heap.size, 0, none⟩) 1 1) (w.alloc (.cells cs.toArray e)) := by
  have hne : ¬ (1 * i.size = 0) := by omega
  have hlt : ¬ (1 * i.size > 2 ^ 24) := by omega
  have hlen : ((Array.range (1 * i.size)).map (z.cells[· % z.cells.size]!)).size = cs.length := by simp [hs]
  have hfill : Instr.fill (fun j => some (j * i.size, i.size)) ((Array.range (1 * i.size)).map (z.cells[· % z.cells.size]!)) [(0, x)] = some cs.toArray := by
    have hsz : x.cells.size = cs.length := by rw [hx]; simp
    unfold Instr.fill Instr.fill
    simp only [hsz, hlen]
    rw [if_neg (by simp [hs])]
    congr 1
    rw [← Array.foldl_toList, Array.toList_zipIdx, hx, Nat.zero_mul]
    have := foldl_set cs 0 ((Array.range (1 * i.size)).map (z.cells[· % z.cells.size]!)).toList (by rw [Array.length_toList, hlen]; omega)
    simp only [Array.toArray_toList, List.take_zero, List.nil_append] at this
    exact this
  simp only [Nat.one_mul] at hfill
  simp [Instr.buildSlice, run_underlying ht, sizeOf, typeInfo, hi, zeroValue, hz, Sem.run_bind, newRow]
  rw [if_neg (by omega), if_neg (by omega), hfill]
  simp [newObj, Sem.run]
theorem run_slice_int (w : World) (x : Int) :
    (Instr.buildSlice 85 1 #[(0, .int .i64 x)]).run Try.prog w = .ok (.slice (some ⟨w.heap.size, 0, none⟩) 1 1) (w.alloc (.cells #[.int .i64 x] 3)) := by
  obtain ⟨i0, hi, hz, h1, _⟩ := info_intI
  exact run_buildSlice_w 85 3 i0 _ Try.underlying85 hi hz (.int .i64 x) [.int .i64 x] rfl (by rw [h1]; rfl) (by simp) (by simp) w
/-- 'append(l, x)': the new number lies in a slice of one -/
theorem append_int {P : Program} (hP : P = Try.prog) {o : Oper} {a : Act} {K : Act → World → Prop} {Q : Exit → Act → World → Prop} (w : World) (s x : Operand)
    (ho : o.op = .call { callee := .builtin .append, args := #[s, x], argTypes := #[85, 85] }) (base : Nat) (v : Value) (l : List Int) (hs : a.eval s = v) (hown : w.ownsRow base 3 1 v l.length (cellsI l))
    (b : Nat) (y : Int) (hx : a.eval x = .slice (some ⟨b, 0, none⟩) 1 1) (hb : w.heap[b]? = some (.cells #[.int .i64 y] 3 (0, 0))) (hl : l.length ≤ 4000000000) (hbase : base ≤ w.heap.size)
    (h : ∀ g cap w', w'.ownsRow base 3 1 (.slice (some ⟨g, 0, none⟩) (l ++ [y]).length cap) (l ++ [y]).length (cellsI (l ++ [y])) → w.grownBy w' v.ownBlock → (v.ownBlock = some g ∨ g = w.heap.size) → g < w'.heap.size → K (a.put o.dst (.slice (some ⟨g, 0, none⟩) (l.length + 1) cap)) w') : o.wp P a w K Q := by
  subst hP
  obtain ⟨i0, hi, hz, h1, h2⟩ := info_intI
  refine wp_append_lies w s x 85 ho base 3 i0 _ 1 8 Try.underlying85 hi hz h1 h2 rfl (by decide) v l.length (cellsI l) hs hown ⟨b, 0, none⟩ 1 1 [.int .i64 y] hx rfl ?_ (by intro u hu; simp at hu; subst hu; rfl) (by decide) (by unfold maxLen; omega) (by omega) hbase w.heap.size rfl ?_
  · intro j u hu
    cases j with
    | zero => simp at hu; subst hu; exact cell_at (i := 0) hb rfl
    | succ j => simp at hu
  · intro g cap w' h3 h4 h5 h6
    have e : (l ++ [y]).length = l.length + 1 := by simp
    refine h g cap w' ?_ h4 h5 h6
    rw [e, cellsI_append]
    exact h3
theorem ownsRow_shape {w : World} {base : Nat} {e : TypeId} {size : Nat} {v : Value} {n : Nat} {xs : List Value} (h : w.ownsRow base e size v n xs) : ∃ q c, v = .slice q n c := by
  rcases h.2 with ⟨hv, hn⟩ | ⟨g, cap, _, hv, _⟩
  · subst hn; exact ⟨_, _, hv⟩
  · exact ⟨_, _, hv⟩
end Go.Proofs.Ytnjafdjolfdklaa
