/- Steps that came in. No statement of the seat is proved here. -/
import Derived.Test.YtnjafdjolfdklaaLzO
namespace Go.Proofs.Ytnjafdjolfdklaa
set_option linter.unusedVariables false
set_option linter.unusedSimpArgs false
set_option linter.unusedSectionVars false
open Go.RowKit
structure StepV where
  holds : Bool
  frm : Int
  r : Int
  n : Int
  t : Int
def stepC (s : StepV) : Array Value := #[.bool s.holds, .int .i64 s.frm, .int .u64 s.r, .int .i64 s.n, .int .i64 s.t]
/-- a slice whose elements read as these steps -/
def StepsIn (w : World) (v : Value) (l : List StepV) : Prop :=
  ∃ q cap, v = .slice q l.length cap ∧ ∀ j x, l[j]? = some x → ∃ b o, q = some ⟨b, o, none⟩ ∧ w.cell? ⟨b, o + j * 5, none⟩ = some (.bool x.holds) ∧ w.cell? ⟨b, o + j * 5 + 1, none⟩ = some (.int .i64 x.frm) ∧
    w.cell? ⟨b, o + j * 5 + 2, none⟩ = some (.int .u64 x.r) ∧ w.cell? ⟨b, o + j * 5 + 3, none⟩ = some (.int .i64 x.n) ∧ w.cell? ⟨b, o + j * 5 + 4, none⟩ = some (.int .i64 x.t)
theorem cell_lt {w : World} {p : Addr} {v : Value} (h : w.cell? p = some v) : p.block < w.heap.size := by
  rcases Nat.lt_or_ge p.block w.heap.size with h1 | h1
  · exact h1
  · unfold World.cell? at h
    rw [Array.getElem?_eq_none h1] at h
    cases h
theorem cell_keep {w w' : World} (hk : Keep nomod w w') {p : Addr} {v : Value} (h : w.cell? p = some v) : w'.cell? p = some v :=
  (hk.toBelow.cell (cell_lt h)).trans h
theorem StepsIn.keep {w w' : World} {v : Value} {l : List StepV} (h : StepsIn w v l) (hk : Keep nomod w w') : StepsIn w' v l := by
  obtain ⟨q, cap, hv, hc⟩ := h
  refine ⟨q, cap, hv, fun j x hx => ?_⟩
  obtain ⟨b, o, hq, h0, h1, h2, h3, h4⟩ := hc j x hx
  exact ⟨b, o, hq, cell_keep hk h0, cell_keep hk h1, cell_keep hk h2, cell_keep hk h3, cell_keep hk h4⟩
abbrev plT : List Nat := [70, 51, tagMap, 4, 2]
section
variable [Floor]
theorem mods_pl {l : List Nat} {a b : World} (h : Keep (mods l) a b) (hl : ∀ x ∈ l, x ∈ plT) : Keep (mods plT) a b := h.mods_mono hl
theorem IsGr.keepT {T : Nat} {w w' : World} {g : Nat} {G : GR} {M : Nat → Obj → Prop} (h : IsGr T w g G) (hk : Keep M w w') (hM : ∀ cs fr, ¬ M g (.cells cs T fr)) : IsGr T w' g G := hk.block _ _ h (hM _ _)
end
set_option maxRecDepth 100000 in
/-- long scripts -/
theorem plays_long (w : World) (len now bound r n N : Int) (q : Option Addr) (m cap : Nat) (hm : 300 < m) :
    Calls Try.prog 3 #[.int .i64 len, .int .i64 now, .int .i64 bound, balV r n, .int .i64 N, .slice q m cap] w fun e w' => e = .returned (.bool true) ∧ Keep nomod w w' := by
  letI : Floor := ⟨w.heap.size⟩
  have HW := Lib.hid (fun W => works_c W)
  unfold balV
  go_enter Try.func3, Try.ntmps3
  go_wp2_with (go_at_call 5; refine (HW.out _).mono ?_; rintro e w1 ⟨rfl, hk1⟩)
  go_ret
  exact ⟨rfl, ((Keep.refl nomod w).alloc _).trans hk1⟩
end Go.Proofs.Ytnjafdjolfdklaa
