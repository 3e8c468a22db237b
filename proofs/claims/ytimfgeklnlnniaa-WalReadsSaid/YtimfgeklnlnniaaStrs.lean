/- Slices of texts. -/
import Derived.Test.YtimfgeklnlnniaaMoves
import Derived.Test.YtimfgeklnlnniaaProg
import Derived.Lib.BufferWrite
import Derived.Deep.AppendLies
namespace Go.Proofs.Ytimfgeklnlnniaa
set_option linter.unusedVariables false
set_option linter.unusedSimpArgs false
open Go.RowKit
/-- the cells of a slice of texts -/
def cellsS (l : List Bs) : List Value := l.map fun s => .string ⟨s.toArray⟩
theorem length_cellsS (l : List Bs) : (cellsS l).length = l.length := List.length_map ..
theorem cellsS_append (a b : List Bs) : cellsS (a ++ b) = cellsS a ++ cellsS b := List.map_append ..
theorem info_string0 : (Try.prog.info? 9).map (fun i => (i.zero, i.size, i.bytes)) = some (some (.string ⟨#[]⟩), 1, 16) := by kernel_rfl
theorem info_string : ∃ i0, Try.prog.info? 9 = some i0 ∧ i0.zero = some (.string ⟨#[]⟩) ∧ i0.size = 1 ∧ i0.bytes = 16 := by
  have h := info_string0
  cases hi : Try.prog.info? 9 with
  | none => rw [hi] at h; cases h
  | some i =>
    rw [hi] at h
    simp only [Option.map_some, Option.some.injEq, Prod.mk.injEq] at h
    exact ⟨i, rfl, h.1, h.2.1, h.2.2⟩
theorem run_buildSlice_v {P : Program} (t e : TypeId) (i : TypeInfo) (z : Value) (ht : P.underlying t = some (.slice e)) (hi : P.info? e = some i) (hz : i.zero = some z) (x : Value) (cs : List Value) (hx : x.cells = cs.toArray)
    (hs : i.size = cs.length) (h0 : 0 < cs.length) (hle : cs.length ≤ 16777216) (w : World) :
    (Instr.buildSlice t 1 #[(0, x)]).run P w = .ok (.slice (some ⟨w.heap.size, 0, none⟩) 1 1) (w.alloc (.cells cs.toArray e)) := by
  have hne : ¬ (1 * i.size = 0) := by omega
  have hlt : ¬ (1 * i.size > 2 ^ 24) := by omega
  have hlen : ((Array.range (1 * i.size)).map (z.cells[· % z.cells.size]!)).size = cs.length := by simp [hs]
  have hfill : Instr.fill (fun j => some (j * i.size, i.size)) ((Array.range (1 * i.size)).map (z.cells[· % z.cells.size]!)) [(0, x)] = some cs.toArray := by
    have hsz : x.cells.size = cs.length := by rw [hx]; simp
    unfold Instr.fill Instr.fill
    simp only [hsz, hlen]
    rw [if_neg (by simp [hs])]
    congr 1
    rw [← Array.foldl_toList, Array.toList_zipIdx, hx, Nat.zero_mul]
    have := foldl_set cs 0 ((Array.range (1 * i.size)).map (z.cells[· % z.cells.size]!)).toList (by rw [Array.length_toList, hlen]; omega)
    simp only [Array.toArray_toList, List.take_zero, List.nil_append] at this
    exact this
  simp only [Nat.one_mul] at hfill
  simp [Instr.buildSlice, run_underlying ht, sizeOf, typeInfo, hi, zeroValue, hz, Sem.run_bind, newRow]
  rw [if_neg (by omega), if_neg (by omega), hfill]
  simp [newObj, Sem.run]
theorem run_slice_str (w : World) (s : ByteArray) :
    (Instr.buildSlice 24 1 #[(0, .string s)]).run Try.prog w = .ok (.slice (some ⟨w.heap.size, 0, none⟩) 1 1) (w.alloc (.cells #[.string s] 9)) := by
  obtain ⟨i0, hi, hz, h1, _⟩ := info_string
  exact run_buildSlice_v 24 9 i0 _ Try.underlying24 hi hz (.string s) [.string s] rfl (by rw [h1]; rfl) (by simp) (by simp) w
/-- 'append(l, s)': the new text lies in a slice of one -/
theorem append_str {P : Program} (hP : P = Try.prog) {o : Oper} {a : Act} {K : Act → World → Prop} {Q : Exit → Act → World → Prop} (w : World) (s x : Operand)
    (ho : o.op = .call { callee := .builtin .append, args := #[s, x], argTypes := #[24, 24] }) (base : Nat) (v : Value) (l : List Bs) (hs : a.eval s = v) (hown : w.ownsRow base 9 1 v l.length (cellsS l))
    (b : Nat) (y : Bs) (hx : a.eval x = .slice (some ⟨b, 0, none⟩) 1 1) (hb : w.heap[b]? = some (.cells #[.string ⟨y.toArray⟩] 9 (0, 0))) (hl : l.length ≤ 4000000000) (hbase : base ≤ w.heap.size)
    (h : ∀ g cap w', w'.ownsRow base 9 1 (.slice (some ⟨g, 0, none⟩) (l ++ [y]).length cap) (l ++ [y]).length (cellsS (l ++ [y])) → w.grownBy w' v.ownBlock → (v.ownBlock = some g ∨ g = w.heap.size) → g < w'.heap.size → K (a.put o.dst (.slice (some ⟨g, 0, none⟩) (l.length + 1) cap)) w') : o.wp P a w K Q := by
  subst hP
  obtain ⟨i0, hi, hz, h1, h2⟩ := info_string
  refine wp_append_lies w s x 24 ho base 9 i0 _ 1 16 Try.underlying24 hi hz h1 h2 rfl (by decide) v l.length (cellsS l) hs hown ⟨b, 0, none⟩ 1 1 [.string ⟨y.toArray⟩] hx rfl ?_ (by intro u hu; simp at hu; subst hu; rfl) (by decide) (by unfold maxLen; omega) (by omega) hbase w.heap.size rfl ?_
  · intro j u hu
    cases j with
    | zero => simp at hu; subst hu; exact cell_at (i := 0) hb rfl
    | succ j => simp at hu
  · intro g cap w' h3 h4 h5 h6
    have e : (l ++ [y]).length = l.length + 1 := by simp
    refine h g cap w' ?_ h4 h5 h6
    rw [e, cellsS_append]
    exact h3
end Go.Proofs.Ytimfgeklnlnniaa
