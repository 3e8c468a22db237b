/- Who holds: New, Ok, Ballot. No statement of the seat is proved here. -/
import Derived.Test.YtnjafdjolfdklaaLzG
import Derived.Test.YtnjafdjolfdklaaLzB
namespace Go.Proofs.Ytnjafdjolfdklaa
set_option linter.unusedVariables false
set_option linter.unusedSimpArgs false
set_option linter.unusedSectionVars false
open Go.RowKit Go.Maps
variable [Floor]
def okH (r n : Int) (N : Int) (len bound : Int) : Bool := namedB r n && decide (1 ≤ N ∧ N ≤ 7 ∧ 1 ≤ len ∧ len ≤ 4294967296 ∧ 0 ≤ bound ∧ bound ≤ 4294967296)
/-- no numbers that may be: the first that may not -/
theorem okH_no {r n N len bound : Int} (h : okH r n N len bound = false) (hn : namedB r n = true) : N < 1 ∨ (1 ≤ N ∧ 7 < N) ∨ (1 ≤ N ∧ N ≤ 7 ∧ len < 1) ∨ (1 ≤ N ∧ N ≤ 7 ∧ 1 ≤ len ∧ 4294967296 < len) ∨ (1 ≤ N ∧ N ≤ 7 ∧ 1 ≤ len ∧ len ≤ 4294967296 ∧ bound < 0) ∨ (1 ≤ N ∧ N ≤ 7 ∧ 1 ≤ len ∧ len ≤ 4294967296 ∧ 0 ≤ bound ∧ 4294967296 < bound) := by
  unfold okH at h
  rw [hn, Bool.true_and] at h
  have := of_decide_eq_false h
  omega
set_option maxRecDepth 100000 in
theorem newHo_no (w : World) (r n N len bound : Int) (h : okH r n N len bound = false) :
    Calls Try.prog 8 #[balV r n, .int .i64 N, .int .i64 len, .int .i64 bound] w fun e w' => e = .returned (.tuple #[.pointer none, .int .i64 2]) ∧ Keep nomod w w' := by
  have Hn := Lib.hid (fun W => named_c W r n)
  unfold balV at *
  cases hn : namedB r n with
  | false =>
    rw [hn] at Hn
    clear hn h
    go_enter Try.func8, Try.ntmps8
    go_wp2_with (go_at_call 27; refine (Hn.out _).mono ?_; rintro e w1 ⟨rfl, hk1⟩)
    go_ret2
    exact ⟨rfl, ((Keep.refl nomod w).alloc _).trans hk1⟩
  | true =>
    have ho := okH_no h hn
    rw [hn] at Hn
    clear hn h
    rcases ho with ho | ⟨h1, ho⟩ | ⟨h1, h2, ho⟩ | ⟨h1, h2, h3, ho⟩ | ⟨h1, h2, h3, h4, ho⟩ | ⟨h1, h2, h3, h4, h5, ho⟩
    all_goals
      go_enter Try.func8, Try.ntmps8
      go_wp2_with (go_at_call 27; refine (Hn.out _).mono ?_; rintro e w1 ⟨rfl, hk1⟩)
      go_ret2
      exact ⟨rfl, ((Keep.refl nomod w).alloc _).trans hk1⟩
set_option maxRecDepth 100000 in
theorem newHo_yes (w : World) (r n : Int) (N : Nat) (len bound : Int) (h : okH r n N len bound = true) (hfl : Floor.b ≤ w.heap.size) :
    Calls Try.prog 8 #[balV r n, .int .i64 N, .int .i64 len, .int .i64 bound] w fun e w' => ∃ g, e = .returned (.tuple #[.pointer (some ⟨g, 0, none⟩), .int .i64 0]) ∧ IsHo w' g ⟨r, n, N, len, bound, List.replicate N none⟩ ∧ Keep nomod w w' := by
  have Hn := Lib.hid (fun W => named_c W r n)
  unfold okH at h
  simp only [Bool.and_eq_true, decide_eq_true_eq] at h
  obtain ⟨hn, h1, h2, h3, h4, h5, h6⟩ := h
  rw [hn] at Hn
  unfold balV at *
  clear hn
  have hmm := @run_makeMap Try.prog
  go_enter Try.func8, Try.ntmps8
  go_wp2_with fail
  refine (Hn.out _).mono ?_
  rintro e w1 ⟨rfl, hk1⟩
  have hk := ((Keep.refl nomod w).alloc (.cells #[.int .u64 r, .int .i64 n] 24)).trans hk1
  have b1 := hk1.block _ _ (heap_new w (.cells #[.int .u64 r, .int .i64 n] 24)) (fun e => e)
  have bc0 := cell_at (i := 0) b1 rfl
  have bc1 := cell_at (i := 1) b1 rfl
  have hs := hk.size
  clear b1 hk1
  go_wp2
  go_ret2
  refine ⟨_, rfl, ⟨⟨by simp, by show 1 ≤ N; omega, by show N ≤ 7; omega, h3, h4, h5, h6, fun i t hi => absurd hi (rep_none N i t)⟩, by omega, w1.heap.size, .map [], ?_, ?_, mapIs_start N, by omega⟩, (hk.alloc _).alloc _⟩
  · exact heap_new_at (by simp) _
  · exact (World.ownsMap_made w1 _ _ _).alloc _
theorem ballot_c (w : World) (g : Nat) (H : HO) (h : IsHo w g H) :
    Calls Try.prog 15 #[.pointer (some ⟨g, 0, none⟩)] w fun e w' => e = .returned (balV H.r H.n) ∧ Keep nomod w w' := by
  obtain ⟨bm, D, hb, hm, hi, hf⟩ := h.lies
  have c0 : ∀ o, (w.alloc o).cell? ⟨g, 0, none⟩ = some (.int .u64 H.r) := fun o => cell_at (heap_old hb o) rfl
  have c1 : ∀ o, (w.alloc o).cell? ⟨g, 1, none⟩ = some (.int .i64 H.n) := fun o => cell_at (heap_old hb o) rfl
  unfold balV
  clear hm hi hb
  go_enter Try.func15, Try.ntmps15
  go_wp2
  exact bodyPost_ret (v := .agg #[.int .u64 H.r, .int .i64 H.n]) (by simp [results, Try.results15, go_sem]) rfl ⟨rfl, (Keep.refl _ _).alloc _⟩
/-- what Ok does -/
def okW (H : HO) (frm r n tick : Int) : HO × Int :=
  if frm < 0 ∨ (H.N : Int) ≤ frm ∨ (mayB r n && timeB tick) = false then (H, 2)
  else if r = H.r ∧ n = H.n then ({ H with T := H.T.set frm.toNat (some (max ((H.T.getD frm.toNat none).getD 0) tick)) }, 0)
  else (H, 0)
def tagMap : Nat := 1000000007
def okP (w : World) (g : Nat) (R : HO × Int) (e : Ending) (w' : World) : Prop := e = .returned (.int .i64 R.2) ∧ IsHo w' g R.1 ∧ Keep (mods [tagMap]) w w'
theorem ok_lo (w : World) (g : Nat) (H : HO) (h : IsHo w g H) (frm r n tick : Int) (hf : frm < 0) :
    Calls Try.prog 10 #[.pointer (some ⟨g, 0, none⟩), .int .i64 frm, balV r n, .int .i64 tick] w fun e w' => okP w g (H, 2) e w' := by
  have HH := Lib.hid h
  unfold balV
  clear h
  go_enter Try.func10, Try.ntmps10
  go_wp2
  go_ret
  exact ⟨rfl, HH.out.keep ((Keep.refl nomod w).alloc _) (fun _ _ e => e) (fun _ _ _ e => e), (Keep.refl _ _).alloc _⟩
theorem ok_hi (w : World) (g : Nat) (H : HO) (h : IsHo w g H) (frm r n tick : Int) (hf : 0 ≤ frm) (hf2 : (H.N : Int) ≤ frm) :
    Calls Try.prog 10 #[.pointer (some ⟨g, 0, none⟩), .int .i64 frm, balV r n, .int .i64 tick] w fun e w' => okP w g (H, 2) e w' := by
  have HH := Lib.hid h
  obtain ⟨bm, D, hb, hm, hi, _⟩ := h.lies
  have c2 : ∀ o, (w.alloc o).cell? ⟨g, 2, none⟩ = some (.int .i64 H.N) := fun o => cell_at (heap_old hb o) rfl
  unfold balV
  clear h hb hm hi
  go_enter Try.func10, Try.ntmps10
  go_wp2
  go_ret
  exact ⟨rfl, HH.out.keep ((Keep.refl nomod w).alloc _) (fun _ _ e => e) (fun _ _ _ e => e), (Keep.refl _ _).alloc _⟩
theorem ok_bad (w : World) (g : Nat) (H : HO) (h : IsHo w g H) (frm r n tick : Int) (hf : 0 ≤ frm) (hf2 : frm < (H.N : Int)) (hb : (mayB r n && timeB tick) = false) :
    Calls Try.prog 10 #[.pointer (some ⟨g, 0, none⟩), .int .i64 frm, balV r n, .int .i64 tick] w fun e w' => okP w g (H, 2) e w' := by
  have HH := Lib.hid h
  have Hm := Lib.hid (fun W => may_c W r n)
  have Ht := Lib.hid (fun W => time_c W tick)
  obtain ⟨bm, D, hbb, hm, hi, _⟩ := h.lies
  have c2 : ∀ o, (w.alloc o).cell? ⟨g, 2, none⟩ = some (.int .i64 H.N) := fun o => cell_at (heap_old hbb o) rfl
  unfold balV at *
  clear h hbb hm hi
  cases hmb : mayB r n with
  | false =>
    rw [hmb] at Hm
    clear hb hmb
    go_enter Try.func10, Try.ntmps10
    go_wp2_with (go_at_call 29; refine (Hm.out _).mono ?_; rintro e w1 ⟨rfl, hk1⟩)
    go_ret
    have hk := ((Keep.refl nomod w).alloc (.cells #[.int .u64 r, .int .i64 n] 24)).trans hk1
    exact ⟨rfl, HH.out.keep hk (fun _ _ e => e) (fun _ _ _ e => e), hk.of_nomod⟩
  | true =>
    have ht : timeB tick = false := by rw [hmb] at hb; exact hb
    rw [hmb] at Hm
    rw [ht] at Ht
    clear hb hmb ht
    go_enter Try.func10, Try.ntmps10
    go_wp2_with (first
      | (go_at_call 29; refine (Hm.out _).mono ?_; rintro e w1 ⟨rfl, hk1⟩)
      | (go_at_call 25; refine (Ht.out _).mono ?_; rintro e w' ⟨rfl, rfl⟩))
    go_ret
    have hk := ((Keep.refl nomod w).alloc (.cells #[.int .u64 r, .int .i64 n] 24)).trans hk1
    exact ⟨rfl, HH.out.keep hk (fun _ _ e => e) (fun _ _ _ e => e), hk.of_nomod⟩
set_option maxRecDepth 100000 in
theorem ok_other (w : World) (g : Nat) (H : HO) (h : IsHo w g H) (frm r n tick : Int) (hf : 0 ≤ frm) (hf2 : frm < (H.N : Int)) (hmb : mayB r n = true) (htb : timeB tick = true) (hne : ¬ (r = H.r ∧ n = H.n)) :
    Calls Try.prog 10 #[.pointer (some ⟨g, 0, none⟩), .int .i64 frm, balV r n, .int .i64 tick] w fun e w' => okP w g (H, 0) e w' := by
  have HH := Lib.hid h
  have Hm := Lib.hid (fun W => may_c W r n)
  have Ht := Lib.hid (fun W => time_c W tick)
  rw [hmb] at Hm
  rw [htb] at Ht
  have hq := fun W => run_eql_bal W r n H.r H.n
  rw [show eqB r n H.r H.n = false from decide_eq_false hne] at hq
  obtain ⟨bm, D, hbb, hm, hi, _⟩ := h.lies
  have c2 : ∀ o, (w.alloc o).cell? ⟨g, 2, none⟩ = some (.int .i64 H.N) := fun o => cell_at (heap_old hbb o) rfl
  unfold balV at *
  clear h hm hi hmb htb
  have HB := Lib.hid hbb
  clear hbb
  go_enter Try.func10, Try.ntmps10
  go_wp2_with fail
  refine (Hm.out _).mono ?_
  rintro e w1 ⟨rfl, hk1⟩
  have hk := ((Keep.refl nomod w).alloc (.cells #[.int .u64 r, .int .i64 n] 24)).trans hk1
  have b1 := hk1.block _ _ (heap_new w (.cells #[.int .u64 r, .int .i64 n] 24)) (fun e => e)
  have hG := hk.block _ _ HB.out (fun e => e)
  have bc0 := cell_at (i := 0) b1 rfl
  have bc1 := cell_at (i := 1) b1 rfl
  have g0 : w1.cell? ⟨g, 0, none⟩ = some (.int .u64 H.r) := cell_at hG rfl
  have g1 : w1.cell? ⟨g, 1, none⟩ = some (.int .i64 H.n) := cell_at hG rfl
  have HK := Lib.hid hk
  clear b1 hk1 hk hG c2
  go_wp2_with (go_at_call 25; refine (Ht.out _).mono ?_; rintro e w' ⟨rfl, rfl⟩)
  go_quiet (fail)
  go_wp2
  go_ret
  exact ⟨rfl, HH.out.keep (HK.out.drewN _) (fun _ _ e => e) (fun _ _ _ e => e), (HK.out.drewN _).of_nomod⟩
end Go.Proofs.Ytnjafdjolfdklaa
