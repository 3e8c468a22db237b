/- LeasePlays: for every input the law returns true, and the arguments read as they did. No condition. -/
import Derived.Test.YtnjafdjolfdklaaRows
import Derived.Test.YtnjafdjolfdklaaLzQ00
import Derived.Test.YtnjafdjolfdklaaLzQ01
import Derived.Test.YtnjafdjolfdklaaLzQ10
import Derived.Test.YtnjafdjolfdklaaLzQ11
import Derived.Test.YtnjafdjolfdklaaLzR
import Derived.Test.YtnjafdjolfdklaaPost
import Derived.ProofKit
namespace Go.Proofs.Ytnjafdjolfdklaa.leasePlays
set_option linter.unusedVariables false
set_option linter.unusedSimpArgs false
open Go.ChangeShapes Go.WideShapes Go.ChangeAt Go.RowKit Go.Deep Go.Joins 
theorem own : ownKnob Try.prog.godebug = none := by kernel_rfl
theorem laidOut : laidOutB Try.prog = true := by kernel_rfl
theorem plays (w : World) (len now bound r n N : Int) (v : Value) (l : List StepV) (hv : StepsIn w v l) :
    Calls Try.prog 3 #[.int .i64 len, .int .i64 now, .int .i64 bound, balV r n, .int .i64 N, v] w fun e w' => e = .returned (.bool true) ∧ Keep nomod w w' := by
  by_cases hl : l.length ≤ 300
  · rcases hg : okG len now with _ | _
    · rcases hh : okH r n N len bound with _ | _
      · exact plays_00 w len now bound r n N v l hv hl hg hh
      · exact plays_01 w len now bound r n N v l hv hl hg hh
    · rcases hh : okH r n N len bound with _ | _
      · exact plays_10 w len now bound r n N v l hv hl hg hh
      · exact plays_11 w len now bound r n N v l hv hl hg hh
  · obtain ⟨q, cap, rfl, _⟩ := hv
    exact plays_long w len now bound r n N q l.length cap (by omega)
set_option maxRecDepth 100000 in
theorem lifted (os : Os) (started : os.Started) (H : Type) (enc : TypeId × Value → H) :
    ReturnsInHanded {} Try.checked os 3 .any (Rows.leasePlaysSpec.pre6 enc Try.prog Try.f3 Rows.leasePlaysRow.domain false) (Rows.leasePlaysSpec.post enc Try.prog Try.f3 false true false false) := by
  refine returnsInHanded_of_change (C := Try.checked) own started (by kernel_rfl) Try.func3
    (ChangeSpec.witness6 (enc := enc) (C := Try.checked) false ⟨#[], #[.int .i64 0, .int .i64 0, .int .i64 0, .agg #[.int .u64 0, .int .i64 0], .int .i64 0, .slice none 0 0], []⟩ 8 (by kernel_rfl) (by kernel_rfl) (by kernel_rfl) (by kernel_rfl)) ?_
  intro W base args ds gs before hval0 hW hcnd _
  have hval : ∀ (j : Nat) t v, Try.f3.params[j]? = some t → args[j]? = some v → Value.okWide Try.prog W .any base t v := hval0
  have hW' := hW
  have hWlt := hW.lt
  obtain ⟨p, q, hA0, hV, rfl, hfz, hnd⟩ := hW
  have hA : DataW.TrodAll enc Try.prog W 0 (fun _ => true) true Try.f3.params.toList args.toList ds p := hA0
  rw [Try.params3] at hA hval
  obtain ⟨v0, vs0, d0, ds0, p0, q0, e0, rfl, rfl, h0, hA⟩ := trodAll_cons hA
  obtain ⟨v1, vs1, d1, ds1, p1, q1, rfl, rfl, rfl, h1, hA⟩ := trodAll_cons hA
  obtain ⟨v2, vs2, d2, ds2, p2, q2, rfl, rfl, rfl, h2, hA⟩ := trodAll_cons hA
  obtain ⟨v3, vs3, d3, ds3, p3, q3, rfl, rfl, rfl, h3, hA⟩ := trodAll_cons hA
  obtain ⟨v4, vs4, d4, ds4, p4, q4, rfl, rfl, rfl, h4, hA⟩ := trodAll_cons hA
  obtain ⟨v5, vs5, d5, ds5, p5, q5, rfl, rfl, rfl, h5, hA⟩ := trodAll_cons hA
  obtain ⟨rfl, rfl, rfl⟩ : vs5 = [] ∧ ds5 = [] ∧ q5 = [] := by
    cases vs5 <;> cases ds5 <;> simp [DataW.TrodAll] at hA
    exact ⟨rfl, rfl, hA⟩
  obtain ⟨rfl, rfl⟩ := trodVars_none hV
  have ea : args = #[v0, v1, v2, v3, v4, v5] := Array.toList_inj.1 e0
  subst ea
  obtain ⟨len, rfl, -, -, -⟩ := open_int Try.underlying2 (hval 0 2 v0 rfl rfl) h0
  obtain ⟨now, rfl, -, -, -⟩ := open_int Try.underlying2 (hval 1 2 v1 rfl rfl) h1
  obtain ⟨bound, rfl, -, -, -⟩ := open_int Try.underlying2 (hval 2 2 v2 rfl rfl) h2
  obtain ⟨b0, b1, y0, y1, n0, rfl, -, -, g0, g1⟩ := open_agg2 Try.underlying24 (by kernel_rfl) cells_Ballot (hval 3 24 v3 rfl rfl) h3
  obtain ⟨r, e1, -⟩ := DataW.trod_int Try.underlying22 g0
  obtain ⟨n, e2, -⟩ := DataW.trod_int Try.underlying3 g1
  simp only [List.cons.injEq, and_true] at e1 e2
  subst e1 e2
  obtain ⟨N, rfl, -, -, -⟩ := open_int Try.underlying3 (hval 4 3 v4 rfl rfl) h4
  obtain ⟨l, hl⟩ := steps_open (okWide_slice Try.underlying25 (hval 5 25 v5 rfl rfl)) h5
  clear hA0 hval0
  simp only [List.append_nil] at hW' hWlt
  refine (plays W len now bound r n N v5 l hl).mono fun e W' ⟨he, hk⟩ => ?_
  subst he
  have hb := hk.toBelow
  refine ⟨_, rfl, _, _, _, [], p0 ++ (p1 ++ (p2 ++ (p3 ++ (p4 ++ p5)))), [], hW', ?_, ?_, rfl, hb.frame _, fun h => by cases h⟩
  · exact trodAll_mk1 (shut_bool Try.underlying4 _)
  · have hlt0 : ∀ x ∈ p0 ++ (p1 ++ (p2 ++ (p3 ++ (p4 ++ p5)))), x.block < W.heap.size := fun x hx => hWlt x hx
    simp only [List.mem_append] at hlt0
    exact trodAll_cons_mk (Below.trod laidOut (by kernel_rfl) (of_decide_eq_true (by kernel_rfl)) h0 hb (fun x hx => hlt0 x (by simp [hx])))
      (trodAll_cons_mk (Below.trod laidOut (by kernel_rfl) (of_decide_eq_true (by kernel_rfl)) h1 hb (fun x hx => hlt0 x (by simp [hx])))
      (trodAll_cons_mk (Below.trod laidOut (by kernel_rfl) (of_decide_eq_true (by kernel_rfl)) h2 hb (fun x hx => hlt0 x (by simp [hx])))
      (trodAll_cons_mk (Below.trod laidOut (by kernel_rfl) (of_decide_eq_true (by kernel_rfl)) h3 hb (fun x hx => hlt0 x (by simp [hx])))
      (trodAll_cons_mk (Below.trod laidOut (by kernel_rfl) (of_decide_eq_true (by kernel_rfl)) h4 hb (fun x hx => hlt0 x (by simp [hx])))
      (trodAll_mk1 (Below.trod laidOut (by kernel_rfl) (of_decide_eq_true (by kernel_rfl)) h5 hb (fun x hx => hlt0 x (by simp [hx]))))))))
theorem over : Rows.leasePlaysRow.holds Try.pinned (OpenSpec.ofChange Rows.leasePlaysSpec) :=
  OpenClaim.holds_of_wide 3 Try.f3 rfl rfl rfl rfl rfl rfl rfl ⟨rfl, rfl, rfl, rfl, rfl⟩ rfl rfl rfl rfl rfl (by kernel_rfl) Try.func3 (by kernel_rfl)
    (of_decide_eq_true (by kernel_rfl)) (by unfold Func.isWrapper; first | (rw [if_pos (by decide +kernel)]; kernel_rfl) | (rw [if_neg (by decide +kernel)]; exact ⟨rfl, rfl⟩))
    (fun os started H enc _ => lifted os started H enc)
theorem proved : Rows.LeasePlaysSaid := over
end Go.Proofs.Ytnjafdjolfdklaa.leasePlays
