/- Who lends: what is lent. No statement of the seat is proved here. -/
import Derived.Test.YtnjafdjolfdklaaLzC
namespace Go.Proofs.Ytnjafdjolfdklaa
set_option linter.unusedVariables false
set_option linter.unusedSimpArgs false
set_option linter.unusedSectionVars false
open Go.RowKit
set_option maxRecDepth 100000 in
theorem rnewGr_no (w : World) (len now : Int) (h : okG len now = false) :
    Calls Try.prog 7 #[.int .i64 len, .int .i64 now] w fun e w' => e = .returned (.pointer none) ∧ w = w' := by
  have H := Lib.hid (rtime_c w now)
  by_cases h1 : 1 ≤ len
  · by_cases h2 : len ≤ 4294967296
    · have ht : timeB now = false := by simpa [okG, h1, h2] using h
      rw [ht] at H
      clear h ht
      go_enter Try.func7, Try.ntmps7
      go_wp2_with (go_at_call 26; refine H.out.mono ?_; rintro e w' ⟨rfl, rfl⟩)
      go_ret
      exact ⟨rfl, rfl⟩
    · clear h
      go_enter Try.func7, Try.ntmps7
      go_wp2
      go_ret
      exact ⟨rfl, rfl⟩
  · clear h
    go_enter Try.func7, Try.ntmps7
    go_wp2
    go_ret
    exact ⟨rfl, rfl⟩
set_option maxRecDepth 100000 in
theorem rnewGr_yes (w : World) (len now : Int) (h : okG len now = true) :
    Calls Try.prog 7 #[.int .i64 len, .int .i64 now] w fun e w' => e = .returned (.pointer (some ⟨w.heap.size, 0, none⟩)) ∧ w' = w.alloc (.cells (grC ⟨len, 0, 0, now + len⟩) 51) := by
  letI : Floor := ⟨0⟩
  obtain ⟨h1, h2, h3, h4⟩ := okG_yes h
  have H := Lib.hid (rtime_c w now)
  have ht : timeB now = true := decide_eq_true ⟨h3, h4⟩
  rw [ht] at H
  clear h ht
  go_enter Try.func7, Try.ntmps7
  go_wp2_with (go_at_call 26; refine H.out.mono ?_; rintro e w' ⟨rfl, rfl⟩)
  go_ret
  exact ⟨rfl, rfl⟩
def lentW (G : GR) (now : Int) : Int × Int × Bool := if G.until_ ≤ now then (0, 0, false) else (G.r, G.n, true)
theorem until_c (w : World) (g : Nat) (G : GR) (h : IsGr 70 w g G) :
    Calls Try.prog 20 #[.pointer (some ⟨g, 0, none⟩)] w fun e w' => e = .returned (.int .i64 G.until_) ∧ w' = w := by
  have c3 : w.cell? ⟨g, 3, none⟩ = some (.int .i64 G.until_) := cell_at h rfl
  go_enter Try.func20, Try.ntmps20
  go_wp2
  go_ret
  exact ⟨rfl, rfl⟩
set_option maxRecDepth 100000 in
theorem lent_c (w : World) (g : Nat) (G : GR) (h : IsGr 70 w g G) (now : Int) :
    Calls Try.prog 18 #[.pointer (some ⟨g, 0, none⟩), .int .i64 now] w fun e w' => e = .returned (.tuple #[balV (lentW G now).1 (lentW G now).2.1, .bool (lentW G now).2.2]) ∧ Keep nomod w w' := by
  letI : Floor := ⟨0⟩
  have HO := Lib.hid (fun W h => over_c W g G h now)
  have hW : ∀ o, IsGr 70 (w.alloc o) g G := fun o => heap_old h o
  have g1 : ∀ o, (w.alloc o).cell? ⟨g, 1, none⟩ = some (.int .u64 G.r) := fun o => cell_at (hW o) rfl
  have g2 : ∀ o, (w.alloc o).cell? ⟨g, 2, none⟩ = some (.int .i64 G.n) := fun o => cell_at (hW o) rfl
  have HW := Lib.hid hW
  clear hW h
  unfold balV
  by_cases hu : G.until_ ≤ now
  · have e1 : lentW G now = (0, 0, false) := if_pos hu
    rw [e1]
    rw [decide_eq_true hu] at HO
    clear e1
    go_enter Try.func18, Try.ntmps18
    go_wp2_with (go_at_call 35; refine (HO.out _ (HW.out _)).mono ?_; rintro e w' ⟨rfl, rfl⟩)
    exact bodyPost_ret (v := .tuple #[.agg #[.int .u64 0, .int .i64 0], .bool false]) (by simp [results, Try.results18, go_sem]) rfl ⟨rfl, (Keep.refl _ _).alloc _⟩
  · have e1 : lentW G now = (G.r, G.n, true) := if_neg hu
    rw [e1]
    rw [decide_eq_false hu] at HO
    clear e1
    dsimp only
    go_enter Try.func18, Try.ntmps18
    go_wp2_with (go_at_call 35; refine (HO.out _ (HW.out _)).mono ?_; rintro e w' ⟨rfl, rfl⟩)
    exact bodyPost_ret (v := .tuple #[.agg #[.int .u64 G.r, .int .i64 G.n], .bool true]) (by simp [results, Try.results18, go_sem]) rfl ⟨rfl, (Keep.refl _ _).alloc _⟩
set_option maxRecDepth 100000 in
theorem rlent_c (w : World) (g : Nat) (G : GR) (h : IsGr 51 w g G) (now : Int) :
    Calls Try.prog 19 #[.pointer (some ⟨g, 0, none⟩), .int .i64 now] w fun e w' => e = .returned (.tuple #[balV (lentW G now).1 (lentW G now).2.1, .bool (lentW G now).2.2]) ∧ Keep nomod w w' := by
  letI : Floor := ⟨0⟩
  have hW : ∀ o, IsGr 51 (w.alloc o) g G := fun o => heap_old h o
  have g3 : ∀ o, (w.alloc o).cell? ⟨g, 3, none⟩ = some (.int .i64 G.until_) := fun o => cell_at (hW o) rfl
  have g1 : ∀ o, (w.alloc o).cell? ⟨g, 1, none⟩ = some (.int .u64 G.r) := fun o => cell_at (hW o) rfl
  have g2 : ∀ o, (w.alloc o).cell? ⟨g, 2, none⟩ = some (.int .i64 G.n) := fun o => cell_at (hW o) rfl
  have HW := Lib.hid hW
  clear hW h
  unfold balV
  by_cases hu : G.until_ ≤ now
  · have e1 : lentW G now = (0, 0, false) := if_pos hu
    rw [e1]
    clear e1
    go_enter Try.func19, Try.ntmps19
    go_wp2
    exact bodyPost_ret (v := .tuple #[.agg #[.int .u64 0, .int .i64 0], .bool false]) (by simp [results, Try.results19, go_sem]) rfl ⟨rfl, (Keep.refl _ _).alloc _⟩
  · have e1 : lentW G now = (G.r, G.n, true) := if_neg hu
    rw [e1]
    clear e1
    dsimp only
    go_enter Try.func19, Try.ntmps19
    go_wp2
    exact bodyPost_ret (v := .tuple #[.agg #[.int .u64 G.r, .int .i64 G.n], .bool true]) (by simp [results, Try.results19, go_sem]) rfl ⟨rfl, (Keep.refl _ _).alloc _⟩
end Go.Proofs.Ytnjafdjolfdklaa
