/- The log, part 1: none, Len, Room, may, the blocks of a stream. -/
import Derived.Test.YtimfgeklnlnniaaMoves3
import Derived.Test.YtimfgeklnlnniaaRep
import Derived.Test.YtimfgeklnlnniaaDisk6
namespace Go.Proofs.Ytimfgeklnlnniaa
set_option linter.unusedVariables false
set_option linter.unusedSimpArgs false
open Go.RowKit
set_option linter.unusedSectionVars false
variable [Floor]
/-- a log in memory -/
structure LG where
  b : Nat
  frm : Int
  n : Int
  s : Bs
  broken : Bool
def lgC (G : LG) : Array Value := #[.pointer (some ⟨G.b, 0, none⟩), .int .i64 G.frm, .int .i64 G.n, .string ⟨G.s.toArray⟩, .bool G.broken]
def IsLog (w : World) (g : Nat) (G : LG) : Prop := w.heap[g]? = some (.cells (lgC G) 68 (0, 0))
theorem IsLog.c0 {w : World} {g : Nat} {G : LG} (h : IsLog w g G) : w.cell? ⟨g, 0, none⟩ = some (.pointer (some ⟨G.b, 0, none⟩)) := cell_at h rfl
theorem IsLog.c1 {w : World} {g : Nat} {G : LG} (h : IsLog w g G) : w.cell? ⟨g, 1, none⟩ = some (.int .i64 G.frm) := cell_at h rfl
theorem IsLog.c2 {w : World} {g : Nat} {G : LG} (h : IsLog w g G) : w.cell? ⟨g, 2, none⟩ = some (.int .i64 G.n) := cell_at h rfl
theorem IsLog.c3 {w : World} {g : Nat} {G : LG} (h : IsLog w g G) : w.cell? ⟨g, 3, none⟩ = some (.string ⟨G.s.toArray⟩) := cell_at h rfl
theorem IsLog.c4 {w : World} {g : Nat} {G : LG} (h : IsLog w g G) : w.cell? ⟨g, 4, none⟩ = some (.bool G.broken) := cell_at h rfl
theorem IsLog.fr {w : World} {g : Nat} {G : LG} (h : IsLog w g G) (i : Nat) : w.frozen? ⟨g, i, none⟩ = false := frozen_at h i
theorem lnone_nil (w : World) : Calls Try.prog 30 #[.pointer none] w fun e w' => e = .returned (.bool true) ∧ w = w' := by
  go_enter Try.func30, Try.ntmps30
  go_wp2
  go_ret
  exact ⟨rfl, rfl⟩
set_option maxRecDepth 100000 in
theorem lnone_log (w : World) (g : Nat) (G : LG) (h : IsLog w g G) : Calls Try.prog 30 #[.pointer (some ⟨g, 0, none⟩)] w fun e w' => e = .returned (.bool false) ∧ w = w' := by
  have c0 := h.c0
  go_enter Try.func30, Try.ntmps30
  go_wp2
  go_ret
  exact ⟨rfl, rfl⟩
theorem len_nil (w : World) : Calls Try.prog 9 #[.pointer none] w fun e w' => e = .returned (.int .i64 0) ∧ w = w' := by
  go_enter Try.func9, Try.ntmps9
  go_wp2_with (go_at_call 30; refine (lnone_nil _).mono ?_; rintro e w' ⟨rfl, rfl⟩)
  go_ret
  exact ⟨rfl, rfl⟩
set_option maxRecDepth 100000 in
theorem len_log (w : World) (g : Nat) (G : LG) (h : IsLog w g G) : Calls Try.prog 9 #[.pointer (some ⟨g, 0, none⟩)] w fun e w' => e = .returned (.int .i64 G.s.length) ∧ w = w' := by
  have H := Lib.hid (fun W h => lnone_log W g G h)
  have c3 := h.c3
  go_enter Try.func9, Try.ntmps9
  go_wp2_with (go_at_call 30; refine (H.out _ h).mono ?_; rintro e w' ⟨rfl, rfl⟩)
  go_ret
  exact ⟨by rw [← size_mk]; rfl, rfl⟩
theorem room_nil (w : World) : Calls Try.prog 10 #[.pointer none] w fun e w' => e = .returned (.int .i64 0) ∧ w = w' := by
  go_enter Try.func10, Try.ntmps10
  go_wp2_with (go_at_call 30; refine (lnone_nil _).mono ?_; rintro e w' ⟨rfl, rfl⟩)
  go_ret
  exact ⟨rfl, rfl⟩
set_option maxRecDepth 100000 in
theorem room_log (w : World) (g : Nat) (G : LG) (h : IsLog w g G) (h1 : 0 ≤ G.n) (h2 : G.n ≤ 1000000) (h3 : G.s.length ≤ 1000000000) : Calls Try.prog 10 #[.pointer (some ⟨g, 0, none⟩)] w fun e w' => e = .returned (.int .i64 (G.n * 255 - G.s.length)) ∧ Keep nomod w w' := by
  have H := Lib.hid (fun W h => lnone_log W g G h)
  go_enter Try.func10, Try.ntmps10
  go_wp2_with (go_at_call 30; refine (H.out _ h).mono ?_; rintro e w' ⟨rfl, rfl⟩)
  refine wp_region_mv (fun _ W => IsLog W g G) (.still 0 (.still 1 (.still 2 (.still 3 (.still 4 (.still 5 (.still 6 (.still 7 (.still 8 (.still 9 (.still 10 (.act 11 [] .fin)))))))))))) (by kernel_rfl) (by kernel_rfl) (by kernel_rfl) (fun _ _ _ _ _ h => h) (fun _ => h) ?_
  refine m3_still _ (.pointer (some ⟨g, 0, none⟩)) rfl rfl (fun W hS => by go_simp) ?_
  simp only [List.getElem_toArray, List.getElem_cons_succ, List.getElem_cons_zero, Act.put, List.setIfInBounds_toArray, List.set_cons_succ, List.set_cons_zero]
  refine m3_still _ (.pointer (some ⟨g, 0, none⟩)) rfl rfl (fun W hS => by have d := hS.c0; go_simp) ?_
  simp only [List.getElem_toArray, List.getElem_cons_succ, List.getElem_cons_zero, Act.put, List.setIfInBounds_toArray, List.set_cons_succ, List.set_cons_zero]
  refine m3_still _ (.pointer (some ⟨g, 2, none⟩)) rfl rfl (fun W hS => by go_simp) ?_
  simp only [List.getElem_toArray, List.getElem_cons_succ, List.getElem_cons_zero, Act.put, List.setIfInBounds_toArray, List.set_cons_succ, List.set_cons_zero]
  refine m3_still _ (.int .i64 G.n) rfl rfl (fun W hS => by have d := hS.c2; go_simp) ?_
  simp only [List.getElem_toArray, List.getElem_cons_succ, List.getElem_cons_zero, Act.put, List.setIfInBounds_toArray, List.set_cons_succ, List.set_cons_zero]
  refine m3_still _ (.int .i64 (G.n * 255)) rfl rfl (fun W hS => by go_simp; exact wrap_in _ (by omega)) ?_
  simp only [List.getElem_toArray, List.getElem_cons_succ, List.getElem_cons_zero, Act.put, List.setIfInBounds_toArray, List.set_cons_succ, List.set_cons_zero]
  refine m3_still _ (.pointer (some ⟨g, 0, none⟩)) rfl rfl (fun W hS => by go_simp) ?_
  simp only [List.getElem_toArray, List.getElem_cons_succ, List.getElem_cons_zero, Act.put, List.setIfInBounds_toArray, List.set_cons_succ, List.set_cons_zero]
  refine m3_still _ (.pointer (some ⟨g, 0, none⟩)) rfl rfl (fun W hS => by have d := hS.c0; go_simp) ?_
  simp only [List.getElem_toArray, List.getElem_cons_succ, List.getElem_cons_zero, Act.put, List.setIfInBounds_toArray, List.set_cons_succ, List.set_cons_zero]
  refine m3_still _ (.pointer (some ⟨g, 3, none⟩)) rfl rfl (fun W hS => by go_simp) ?_
  simp only [List.getElem_toArray, List.getElem_cons_succ, List.getElem_cons_zero, Act.put, List.setIfInBounds_toArray, List.set_cons_succ, List.set_cons_zero]
  refine m3_still _ (.string ⟨G.s.toArray⟩) rfl rfl (fun W hS => by have d := hS.c3; go_simp) ?_
  simp only [List.getElem_toArray, List.getElem_cons_succ, List.getElem_cons_zero, Act.put, List.setIfInBounds_toArray, List.set_cons_succ, List.set_cons_zero]
  refine m3_still _ (.int .i64 G.s.length) rfl rfl (fun W hS => by go_simp) ?_
  simp only [List.getElem_toArray, List.getElem_cons_succ, List.getElem_cons_zero, Act.put, List.setIfInBounds_toArray, List.set_cons_succ, List.set_cons_zero]
  refine m3_still _ (.int .i64 (G.n * 255 - G.s.length)) rfl rfl (fun W hS => by go_simp; exact wrap_in _ (by omega)) ?_
  simp only [List.getElem_toArray, List.getElem_cons_succ, List.getElem_cons_zero, Act.put, List.setIfInBounds_toArray, List.set_cons_succ, List.set_cons_zero]
  refine m3_act _ rfl rfl (fun K hK => ?_)
  simp only [List.getElem_toArray, List.getElem_cons_succ, List.getElem_cons_zero, Act.put, List.setIfInBounds_toArray, List.set_cons_succ, List.set_cons_zero]
  go_simp
  refine hK _ _ (fun _ h => (by cases h)) ?_
  clear hK
  refine m3_end ?_
  go_wp2
  go_ret
  exact ⟨rfl, (Keep.refl _ _).drew⟩
/-- the error of a log's place -/
def mayW (size : Nat) (frm n : Int) : Int := if size = 0 then 1 else if n < 1 ∨ frm < 0 ∨ (size : Int) ≤ frm ∨ (size : Int) - frm < n then 2 else 0
theorem wmay_nil (w : World) (frm n : Int) : Calls Try.prog 23 #[.pointer none, .int .i64 frm, .int .i64 n] w fun e w' => e = .returned (.int .i64 1) ∧ w = w' := by
  go_enter Try.func23, Try.ntmps23
  go_wp2_with (go_at_call 48; refine (size_nil _).mono ?_; rintro e w' ⟨rfl, rfl⟩)
  go_ret
  exact ⟨rfl, rfl⟩
set_option maxRecDepth 100000 in
theorem wmay_disk (w : World) (b : Nat) (D : DK) (h : IsDisk w b D) (frm n : Int) (hS : D.S.length ≤ 1000000) : Calls Try.prog 23 #[.pointer (some ⟨b, 0, none⟩), .int .i64 frm, .int .i64 n] w fun e w' => e = .returned (.int .i64 (mayW D.S.length frm n)) ∧ w = w' := by
  have H := Lib.hid (size_disk w b D h)
  obtain ⟨sz, hsz⟩ : ∃ sz, D.S.length = sz := ⟨_, rfl⟩
  rw [hsz] at H hS
  rw [hsz]
  clear hsz h
  by_cases h0 : sz = 0
  · subst h0
    go_enter Try.func23, Try.ntmps23
    go_wp2_with (go_at_call 48; refine H.out.mono ?_; rintro e w' ⟨rfl, rfl⟩)
    go_ret
    exact ⟨rfl, rfl⟩
  · have e0 : mayW sz frm n = if n < 1 ∨ frm < 0 ∨ (sz : Int) ≤ frm ∨ (sz : Int) - frm < n then 2 else 0 := by unfold mayW; rw [if_neg h0]
    rw [e0]
    clear e0
    by_cases h1 : n < 1
    · have e1 : (if n < 1 ∨ frm < 0 ∨ (sz : Int) ≤ frm ∨ (sz : Int) - frm < n then (2 : Int) else 0) = 2 := if_pos (.inl h1)
      rw [e1]; clear e1
      go_enter Try.func23, Try.ntmps23
      go_wp2_with (go_at_call 48; refine H.out.mono ?_; rintro e w' ⟨rfl, rfl⟩)
      go_ret
      exact ⟨rfl, rfl⟩
    · by_cases h2 : frm < 0
      · have e1 : (if n < 1 ∨ frm < 0 ∨ (sz : Int) ≤ frm ∨ (sz : Int) - frm < n then (2 : Int) else 0) = 2 := if_pos (.inr (.inl h2))
        rw [e1]; clear e1
        go_enter Try.func23, Try.ntmps23
        go_wp2_with (go_at_call 48; refine H.out.mono ?_; rintro e w' ⟨rfl, rfl⟩)
        go_ret
        exact ⟨rfl, rfl⟩
      · by_cases h3 : (sz : Int) ≤ frm
        · have e1 : (if n < 1 ∨ frm < 0 ∨ (sz : Int) ≤ frm ∨ (sz : Int) - frm < n then (2 : Int) else 0) = 2 := if_pos (.inr (.inr (.inl h3)))
          rw [e1]; clear e1
          go_enter Try.func23, Try.ntmps23
          go_wp2_with (go_at_call 48; refine H.out.mono ?_; rintro e w' ⟨rfl, rfl⟩)
          go_ret
          exact ⟨rfl, rfl⟩
        · have hwr := wrap_in ((sz : Int) - frm) (by omega)
          by_cases h4 : (sz : Int) - frm < n
          · have e1 : (if n < 1 ∨ frm < 0 ∨ (sz : Int) ≤ frm ∨ (sz : Int) - frm < n then (2 : Int) else 0) = 2 := if_pos (.inr (.inr (.inr h4)))
            rw [e1]; clear e1
            go_enter Try.func23, Try.ntmps23
            go_wp2_with (go_at_call 48; refine H.out.mono ?_; rintro e w' ⟨rfl, rfl⟩)
            go_ret
            exact ⟨rfl, rfl⟩
          · have e1 : (if n < 1 ∨ frm < 0 ∨ (sz : Int) ≤ frm ∨ (sz : Int) - frm < n then (2 : Int) else 0) = 0 := if_neg (by omega)
            rw [e1]; clear e1
            go_enter Try.func23, Try.ntmps23
            go_wp2_with (go_at_call 48; refine H.out.mono ?_; rintro e w' ⟨rfl, rfl⟩)
            go_ret
            exact ⟨rfl, rfl⟩
end Go.Proofs.Ytimfgeklnlnniaa
