/- How many make a quorum. No statement of the seat is proved here. -/
import Derived.Test.YtnjafdjolfdklaaLzA
namespace Go.Proofs.Ytnjafdjolfdklaa
set_option linter.unusedVariables false
set_option linter.unusedSimpArgs false
open Go.RowKit
theorem majority_c (w : World) (n : Int) (h1 : 1 ≤ n) (h2 : n ≤ 7) : Calls Try.prog 31 #[.int .i64 n] w fun e w' => e = .returned (.tuple #[.int .i64 (n / 2 + 1), .int .i64 0]) ∧ w = w' := by
  go_enter Try.func31, Try.ntmps31
  go_wp2
  go_ret2
  exact ⟨rfl, rfl⟩
theorem rmajority_c (w : World) (n : Nat) (h2 : n ≤ 1000000) : Calls Try.prog 41 #[.int .i64 n] w fun e w' => e = .returned (.int .i64 ((n : Int) / 2 + 1)) ∧ w = w' := by
  go_enter Try.func41, Try.ntmps41
  go_wp2
  go_loop [3] (fun k => ∃ m : Nat, m ≤ n / 2 + 1 ∧ k = .int .i64 (m : Int)) (fun k => n + 1 - (intOf k).toNat)
  case atStart => exact ⟨0, by omega, rfl⟩
  case round =>
    obtain ⟨m, hm, rfl⟩ := hrel
    by_cases hlt : 2 * m ≤ n
    · go_wp2
      go_round
      case rel => exact ⟨m + 1, by omega, by go_num⟩
      case measure => simp [intOf]; omega
    · have e : m = n / 2 + 1 := by omega
      have e2 : (m : Int) = (n : Int) / 2 + 1 := by omega
      have E := Lib.hid e2
      clear e e2
      go_wp2
      go_ret
      exact ⟨by rw [← E.out]; rfl, rfl⟩
/-- a slice whose elements read as these numbers -/
def IntsIn (w : World) (v : Value) (l : List Int) : Prop :=
  ∃ q cap, v = .slice q l.length cap ∧ ∀ j x, l[j]? = some x → ∃ b o, q = some ⟨b, o, none⟩ ∧ w.cell? ⟨b, o + j, none⟩ = some (.int .i64 x)
def votesN (l : List Int) (i : Nat) : Nat := ((List.range i).filter fun (a : Nat) => l.any fun x => x == (a : Int)).length
theorem votesN_succ (l : List Int) (i : Nat) : votesN l (i + 1) = votesN l i + if (l.any fun x => x == (i : Int)) = true then 1 else 0 := by
  unfold votesN
  rw [List.range_succ, List.filter_append, List.length_append]
  congr 1
  by_cases h : (l.any fun x => x == (i : Int)) = true <;> simp [h]
theorem votesN_le (l : List Int) (i : Nat) : votesN l i ≤ i := by
  unfold votesN
  exact Nat.le_trans (List.length_filter_le _ _) (by simp)
theorem any_take {l : List Int} {j : Nat} {x : Int} (h : l[j]? = some x) (p : Int → Bool) : (l.take (j + 1)).any p = ((l.take j).any p || p x) := by
  obtain ⟨hj, rfl⟩ := List.getElem?_eq_some_iff.1 h
  rw [List.take_succ_eq_append_getElem hj, List.any_append]
  simp
set_option maxRecDepth 100000 in
theorem quorum_c (w : World) (v : Value) (l : List Int) (h : IntsIn w v l) (n : Nat) (hn : n ≤ 1000000) (hl : l.length ≤ 1000000) :
    Calls Try.prog 34 #[v, .int .i64 n] w fun e w' => e = .returned (.bool (decide (n / 2 + 1 ≤ votesN l n))) ∧ w = w' := by
  obtain ⟨q, cap, rfl, hc⟩ := h
  have HC := Lib.hid hc
  have HM := Lib.hid (rmajority_c w n hn)
  obtain ⟨m, hm⟩ : ∃ m, l.length = m := ⟨_, rfl⟩
  rw [hm] at hl
  rw [hm]
  have HN := Lib.hid hm
  clear hc hm
  go_enter Try.func34, Try.ntmps34
  go_wp2
  go_loop [5, 6] (fun k i => ∃ a c : Nat, a ≤ n ∧ i = .int .i64 (a : Int) ∧ k = .int .i64 (c : Int) ∧ c ≤ a ∧ Hid (c = votesN l a)) (fun _ i => n - (intOf i).toNat)
  case atStart => exact ⟨0, 0, Nat.zero_le _, rfl, rfl, Nat.le_refl _, Lib.hid rfl⟩
  case round =>
    obtain ⟨a, c, ha, rfl, rfl, hca, HV⟩ := hrel
    by_cases hlt : a < n
    · go_wp2
      go_loop [7, 8] (fun t j => ∃ (b : Bool) (d : Nat), d ≤ m ∧ j = .int .i64 (d : Int) ∧ t = .bool b ∧ Hid (b = (l.take d).any fun x => x == (a : Int))) (fun _ j => m - (intOf j).toNat)
      case atStart => exact ⟨false, 0, Nat.zero_le _, rfl, rfl, Lib.hid rfl⟩
      case round =>
        obtain ⟨b, d, hd, rfl, rfl, HB⟩ := hrel
        by_cases hdm : d < m
        · obtain ⟨x, hx⟩ : ∃ x, l[d]? = some x := ⟨_, List.getElem?_eq_getElem (by rw [HN.out]; exact hdm)⟩
          obtain ⟨b1, o1, rfl, c1⟩ := HC.out d x hx
          have HA := Lib.hid (any_take hx (fun x => x == (a : Int)))
          clear HC hx
          cases b with
          | true =>
            go_wp2
            go_round
            case rel => exact ⟨true, d + 1, by omega, by go_num, rfl, Lib.hid (by rw [HA.out, ← HB.out]; rfl)⟩
            case measure => simp [intOf]; omega
          | false =>
            by_cases hxa : x = (a : Int)
            · have hxb : (x == (a : Int)) = true := by simpa using hxa
              have HX := Lib.hid hxb
              clear hxa
              go_wp2
              go_round
              case rel => exact ⟨true, d + 1, by omega, by go_num, rfl, Lib.hid (by rw [HA.out, ← HB.out, HX.out]; rfl)⟩
              case measure => simp [intOf]; omega
            · have hxb : (x == (a : Int)) = false := by simpa using hxa
              have HX := Lib.hid hxb
              clear hxa
              go_wp2
              go_round
              case rel => exact ⟨false, d + 1, by omega, by go_num, rfl, Lib.hid (by rw [HA.out, ← HB.out, HX.out]; rfl)⟩
              case measure => simp [intOf]; omega
        · have hdm' : d = m := by omega
          subst hdm'
          have hall : b = l.any fun x => x == (a : Int) := by
            rw [HB.out, List.take_of_length_le (by rw [HN.out]; exact Nat.le_refl _)]
          have HALL := Lib.hid hall
          have HVS := Lib.hid (votesN_succ l a)
          clear hall
          cases b with
          | true =>
            go_wp2
            go_round
            case rel => exact ⟨a + 1, c + 1, by omega, by go_num, by go_num, by omega, Lib.hid (by rw [HVS.out, ← HV.out, ← HALL.out]; rfl)⟩
            case measure => simp [intOf]; omega
          | false =>
            go_wp2
            go_round
            case rel => exact ⟨a + 1, c, by omega, by go_num, rfl, by omega, Lib.hid (by rw [HVS.out, ← HV.out, ← HALL.out]; rfl)⟩
            case measure => simp [intOf]; omega
    · have hn' : a = n := by omega
      subst hn'
      go_wp2_with (go_at_call 41; refine HM.out.mono ?_; rintro e w' ⟨rfl, rfl⟩)
      go_ret
      refine ⟨?_, rfl⟩
      show Ending.returned (.bool (decide ((a : Int) / 2 + 1 ≤ (c : Int)))) = _
      rw [← HV.out]
      exact congrArg (fun b => Ending.returned (.bool b)) (decide_eq_decide.2 (by omega))
end Go.Proofs.Ytnjafdjolfdklaa
