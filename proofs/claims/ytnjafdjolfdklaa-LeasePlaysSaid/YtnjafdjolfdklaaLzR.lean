/- Steps that came in: from the argument's reading. No statement of the seat is proved here. -/
import Derived.Test.YtnjafdjolfdklaaLzP
import Derived.ProofKit
import Derived.Deep.Slices
import Derived.Lib.SmallJoins
namespace Go.Proofs.Ytnjafdjolfdklaa
set_option linter.unusedVariables false
set_option linter.unusedSimpArgs false
set_option linter.unusedSectionVars false
open Go.RowKit Go.WideShapes Go.ChangeShapes Go.Deep Go.Joins 
theorem cells_Step : Try.prog.cellsOf 39 = 5 := by kernel_rfl
theorem cells_bool : Try.prog.cellsOf 4 = 1 := by kernel_rfl
theorem cells_int : Try.prog.cellsOf 3 = 1 := by kernel_rfl
theorem cells_int64 : Try.prog.cellsOf 2 = 1 := by kernel_rfl
theorem cells_uint64 : Try.prog.cellsOf 22 = 1 := by kernel_rfl
theorem cells_Ballot : Try.prog.cellsOf 24 = 2 := by kernel_rfl
set_option maxRecDepth 100000 in
theorem step_open {H : Type} {enc : TypeId × Value → H} {W : World} {base : Nat} {sp : Nat → Bool} {held : Bool} {fuel : Nat} {cs : List Value} {x : DataW H × List MemPlace} (h : DataW.trod enc Try.prog W base sp held fuel 39 cs = some x) :
    ∃ s : StepV, cs = (stepC s).toList := by
  obtain ⟨y0, y1, y2, y3, n, _, hl, h0, h1, h2, h3⟩ := trod_struct4 Try.underlying39 h
  rw [cells_Step] at hl
  match cs, hl with
  | [c0, c1, c2, c3, c4], _ =>
    simp only [cells_bool, cells_int, cells_int64, cells_uint64, cells_Ballot, List.drop_zero, List.drop_succ_cons, List.take_succ_cons, List.take_zero] at h0 h1 h2 h3
    obtain ⟨b, e0, _⟩ := DataW.trod_bool Try.underlying4 h0
    obtain ⟨f, e1, _⟩ := DataW.trod_int Try.underlying3 h1
    obtain ⟨z0, z1, n2, _, _, g0, g1⟩ := trod_struct2 Try.underlying24 h2
    simp only [cells_bool, cells_int, cells_int64, cells_uint64, cells_Ballot, List.drop_zero, List.drop_succ_cons, List.take_succ_cons, List.take_zero] at g0 g1
    obtain ⟨r, e2, _⟩ := DataW.trod_int Try.underlying22 g0
    obtain ⟨n', e3, _⟩ := DataW.trod_int Try.underlying3 g1
    obtain ⟨t, e4, _⟩ := DataW.trod_int Try.underlying2 h3
    simp only [List.cons.injEq, and_true] at e0 e1 e2 e3 e4
    subst e0 e1 e2 e3 e4
    exact ⟨⟨b, f, r, n', t⟩, rfl⟩
theorem steps_open {H : Type} {enc : TypeId × Value → H} {W : World} {v : Value} {d : DataW H} {base : Nat} {sp : Nat → Bool} {held : Bool} {p : List MemPlace} (hs : ∃ a len cap, v = Value.slice a len cap) (h : DataW.Trod enc Try.prog W base sp held 25 v d p) : ∃ l : List StepV, StepsIn W v l := by
  obtain ⟨a0, len, cap, rfl⟩ := hs
  obtain ⟨fuel, hf⟩ := h
  rcases open_slice Try.underlying25 hf with ⟨hcs, _⟩ | ⟨a, len', cap', m, n, D, Pl, hcs, _, hl, _, hm, _, hx⟩
  · simp [Value.cells] at hcs
    obtain ⟨rfl, rfl, rfl⟩ := hcs
    exact ⟨[], none, 0, rfl, fun j x hx => by cases hx⟩
  · simp [Value.cells] at hcs
    obtain ⟨rfl, rfl, rfl⟩ := hcs
    have hlm : len ≤ m := by rw [hm]; split <;> omega
    have hstep : ∀ i, i < len → ∃ s : StepV, ∀ j, j < 5 → W.cell? ((a.add (i * 5)).add j) = (stepC s).toList[j]? := fun i hi => by
      obtain ⟨cs', h1, h2⟩ := hx i (by omega)
      rw [cells_Step] at h1
      obtain ⟨_, _, hc⟩ := World.cells?_some h1
      obtain ⟨s, rfl⟩ := step_open h2
      exact ⟨s, hc⟩
    haveI : Inhabited StepV := ⟨⟨false, 0, 0, 0, 0⟩⟩
    obtain ⟨S, hS⟩ := choose_lt (α := StepV) (p := fun i s => ∀ j, j < 5 → W.cell? ((a.add (i * 5)).add j) = (stepC s).toList[j]?) hstep
    have hlen : ((List.range len).map S).length = len := by simp
    refine ⟨(List.range len).map S, some a, cap, by rw [hlen], fun j x hx => ?_⟩
    have hj : j < len := by have := (List.getElem?_eq_some_iff.1 hx).1; rw [hlen] at this; exact this
    rw [List.getElem?_map, List.getElem?_range hj] at hx
    simp only [Option.map_some, Option.some.injEq] at hx
    subst hx
    obtain ⟨b, o, spot⟩ := a
    have hspot : spot = none := by
      have := hS 0 (by omega) 0 (by omega)
      rw [Nat.zero_mul] at this
      exact World.cell?_spot (a := ⟨b, o, spot⟩) (v := .bool (S 0).holds) this
    subst hspot
    have hj5 := hS j hj
    simp only [add_plain] at hj5
    exact ⟨b, o, rfl, hj5 0 (by omega), hj5 1 (by omega), hj5 2 (by omega), hj5 3 (by omega), hj5 4 (by omega)⟩
end Go.Proofs.Ytnjafdjolfdklaa
