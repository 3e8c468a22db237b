/- Ballots, times. No statement of the seat is proved here. -/
import Derived.Test.YtnjafdjolfdklaaProg
import Derived.Test.YtnjafdjolfdklaaBase
import Derived.Deep.QuietTactic
import Derived.BigQuiet
namespace Go.Proofs.Ytnjafdjolfdklaa
set_option linter.unusedVariables false
set_option linter.unusedSimpArgs false
open Go.RowKit
/-- a ballot's value -/
def balV (r n : Int) : Value := .agg #[.int .u64 r, .int .i64 n]
def mayB (r n : Int) : Bool := decide (0 ≤ n ∧ n < 7 ∧ r ≤ 281474976710656)
def namedB (r n : Int) : Bool := mayB r n && !(decide (r = 0) && decide (n = 0))
def timeB (t : Int) : Bool := decide (0 ≤ t ∧ t ≤ 17592186044416)
theorem time_c (w : World) (t : Int) : Calls Try.prog 25 #[.int .i64 t] w fun e w' => e = .returned (.bool (timeB t)) ∧ w = w' := by
  by_cases h0 : 0 ≤ t
  · by_cases h1 : t ≤ 17592186044416
    · have e : timeB t = true := decide_eq_true ⟨h0, h1⟩
      rw [e]
      go_enter Try.func25, Try.ntmps25
      go_wp2
      go_ret
      exact ⟨rfl, rfl⟩
    · have e : timeB t = false := decide_eq_false (fun h => h1 h.2)
      rw [e]
      go_enter Try.func25, Try.ntmps25
      go_wp2
      go_ret
      exact ⟨rfl, rfl⟩
  · have e : timeB t = false := decide_eq_false (fun h => h0 h.1)
    rw [e]
    go_enter Try.func25, Try.ntmps25
    go_wp2
    go_ret
    exact ⟨rfl, rfl⟩
theorem rtime_c (w : World) (t : Int) : Calls Try.prog 26 #[.int .i64 t] w fun e w' => e = .returned (.bool (timeB t)) ∧ w = w' := by
  by_cases h0 : 0 ≤ t
  · by_cases h1 : t ≤ 17592186044416
    · have e : timeB t = true := decide_eq_true ⟨h0, h1⟩
      rw [e]
      go_enter Try.func26, Try.ntmps26
      go_wp2
      go_ret
      exact ⟨rfl, rfl⟩
    · have e : timeB t = false := decide_eq_false (fun h => h1 h.2)
      rw [e]
      go_enter Try.func26, Try.ntmps26
      go_wp2
      go_ret
      exact ⟨rfl, rfl⟩
  · have e : timeB t = false := decide_eq_false (fun h => h0 h.1)
    rw [e]
    go_enter Try.func26, Try.ntmps26
    go_wp2
    go_ret
    exact ⟨rfl, rfl⟩
theorem may_c (w : World) (r n : Int) : Calls Try.prog 29 #[balV r n] w fun e w' => e = .returned (.bool (mayB r n)) ∧ Keep nomod w w' := by
  unfold balV
  by_cases h0 : 0 ≤ n
  · by_cases h1 : n < 7
    · by_cases h2 : r ≤ 281474976710656
      · have e : mayB r n = true := decide_eq_true ⟨h0, h1, h2⟩
        rw [e]
        go_enter Try.func29, Try.ntmps29
        go_wp2
        go_ret
        exact ⟨rfl, (Keep.refl _ _).alloc _⟩
      · have e : mayB r n = false := decide_eq_false (fun h => h2 h.2.2)
        rw [e]
        go_enter Try.func29, Try.ntmps29
        go_wp2
        go_ret
        exact ⟨rfl, (Keep.refl _ _).alloc _⟩
    · have e : mayB r n = false := decide_eq_false (fun h => h1 h.2.1)
      rw [e]
      go_enter Try.func29, Try.ntmps29
      go_wp2
      go_ret
      exact ⟨rfl, (Keep.refl _ _).alloc _⟩
  · have e : mayB r n = false := decide_eq_false (fun h => h0 h.1)
    rw [e]
    go_enter Try.func29, Try.ntmps29
    go_wp2
    go_ret
    exact ⟨rfl, (Keep.refl _ _).alloc _⟩
theorem rmay_c (w : World) (r n : Int) : Calls Try.prog 30 #[balV r n] w fun e w' => e = .returned (.bool (mayB r n)) ∧ Keep nomod w w' := by
  unfold balV
  by_cases h0 : 0 ≤ n
  · by_cases h1 : n < 7
    · by_cases h2 : r ≤ 281474976710656
      · have e : mayB r n = true := decide_eq_true ⟨h0, h1, h2⟩
        rw [e]
        go_enter Try.func30, Try.ntmps30
        go_wp2
        go_ret
        exact ⟨rfl, (Keep.refl _ _).alloc _⟩
      · have e : mayB r n = false := decide_eq_false (fun h => h2 h.2.2)
        rw [e]
        go_enter Try.func30, Try.ntmps30
        go_wp2
        go_ret
        exact ⟨rfl, (Keep.refl _ _).alloc _⟩
    · have e : mayB r n = false := decide_eq_false (fun h => h1 h.2.1)
      rw [e]
      go_enter Try.func30, Try.ntmps30
      go_wp2
      go_ret
      exact ⟨rfl, (Keep.refl _ _).alloc _⟩
  · have e : mayB r n = false := decide_eq_false (fun h => h0 h.1)
    rw [e]
    go_enter Try.func30, Try.ntmps30
    go_wp2
    go_ret
    exact ⟨rfl, (Keep.refl _ _).alloc _⟩
theorem named_c (w : World) (r n : Int) : Calls Try.prog 27 #[balV r n] w fun e w' => e = .returned (.bool (namedB r n)) ∧ Keep nomod w w' := by
  have H := Lib.hid (fun W => may_c W r n)
  cases hm : mayB r n with
  | false =>
    have e : namedB r n = false := by unfold namedB; rw [hm]; rfl
    rw [e]
    rw [hm] at H
    unfold balV at H ⊢
    clear hm e
    go_enter Try.func27, Try.ntmps27
    go_wp2_with (go_at_call 29; refine (H.out _).mono ?_; rintro e w1 ⟨rfl, hk1⟩)
    go_ret
    exact ⟨rfl, ((Keep.refl nomod _).alloc _).trans hk1⟩
  | true =>
    have e : namedB r n = !(decide (r = 0) && decide (n = 0)) := by unfold namedB; rw [hm]; rfl
    rw [hm] at H
    unfold balV at H ⊢
    clear hm
    have E := Lib.hid e
    clear e
    go_enter Try.func27, Try.ntmps27
    go_wp2_with fail
    refine (H.out _).mono ?_
    rintro e w1 ⟨rfl, hk1⟩
    have b1 := hk1.block _ _ (heap_new w (.cells #[.int .u64 r, .int .i64 n] 24)) (fun e => e)
    have c0 := cell_at (i := 0) b1 rfl
    have c1 := cell_at (i := 1) b1 rfl
    have hk := ((Keep.refl nomod w).alloc (.cells #[.int .u64 r, .int .i64 n] 24)).trans hk1
    clear b1 hk1
    by_cases hr : r = 0
    · subst hr
      by_cases hn : n = 0
      · subst hn
        go_wp2
        go_ret
        exact ⟨by rw [E.out]; rfl, hk⟩
      · go_wp2
        go_ret
        exact ⟨by rw [E.out]; simp [hn], hk⟩
    · go_wp2
      go_ret
      exact ⟨by rw [E.out]; simp [hr], hk⟩
theorem rnamed_c (w : World) (r n : Int) : Calls Try.prog 28 #[balV r n] w fun e w' => e = .returned (.bool (namedB r n)) ∧ Keep nomod w w' := by
  have H := Lib.hid (fun W => rmay_c W r n)
  cases hm : mayB r n with
  | false =>
    have e : namedB r n = false := by unfold namedB; rw [hm]; rfl
    rw [e]
    rw [hm] at H
    unfold balV at H ⊢
    clear hm e
    go_enter Try.func28, Try.ntmps28
    go_wp2_with (go_at_call 30; refine (H.out _).mono ?_; rintro e w1 ⟨rfl, hk1⟩)
    go_ret
    exact ⟨rfl, ((Keep.refl nomod _).alloc _).trans hk1⟩
  | true =>
    have e : namedB r n = !(decide (r = 0) && decide (n = 0)) := by unfold namedB; rw [hm]; rfl
    rw [hm] at H
    unfold balV at H ⊢
    clear hm
    have E := Lib.hid e
    clear e
    go_enter Try.func28, Try.ntmps28
    go_wp2_with fail
    refine (H.out _).mono ?_
    rintro e w1 ⟨rfl, hk1⟩
    have b1 := hk1.block _ _ (heap_new w (.cells #[.int .u64 r, .int .i64 n] 24)) (fun e => e)
    have c0 := cell_at (i := 0) b1 rfl
    have c1 := cell_at (i := 1) b1 rfl
    have hk := ((Keep.refl nomod w).alloc (.cells #[.int .u64 r, .int .i64 n] 24)).trans hk1
    clear b1 hk1
    by_cases hr : r = 0
    · subst hr
      by_cases hn : n = 0
      · subst hn
        go_wp2
        go_ret
        exact ⟨by rw [E.out]; rfl, hk⟩
      · go_wp2
        go_ret
        exact ⟨by rw [E.out]; simp [hn], hk⟩
    · go_wp2
      go_ret
      exact ⟨by rw [E.out]; simp [hr], hk⟩
def eqB (r n R N : Int) : Bool := decide (r = R ∧ n = N)
theorem run_eql_bal (w : World) (r n R N : Int) : (binOp .eql 24 (.agg #[.int .u64 r, .int .i64 n]) (.agg #[.int .u64 R, .int .i64 N])).run Try.prog w = .ok (.bool (eqB r n R N)) w := by
  by_cases h1 : r = R
  · by_cases h2 : n = N
    · have e : eqB r n R N = true := decide_eq_true ⟨h1, h2⟩
      rw [e]
      go_simp
    · have e : eqB r n R N = false := decide_eq_false (fun h => h2 h.2)
      rw [e]
      go_simp
  · have e : eqB r n R N = false := decide_eq_false (fun h => h1 h.1)
    rw [e]
    go_simp
theorem run_neq_bal (w : World) (r n R N : Int) : (binOp .neq 24 (.agg #[.int .u64 r, .int .i64 n]) (.agg #[.int .u64 R, .int .i64 N])).run Try.prog w = .ok (.bool (!eqB r n R N)) w := by
  by_cases h1 : r = R
  · by_cases h2 : n = N
    · have e : eqB r n R N = true := decide_eq_true ⟨h1, h2⟩
      rw [e]
      go_simp
    · have e : eqB r n R N = false := decide_eq_false (fun h => h2 h.2)
      rw [e]
      go_simp
  · have e : eqB r n R N = false := decide_eq_false (fun h => h1 h.1)
    rw [e]
    go_simp
end Go.Proofs.Ytnjafdjolfdklaa
