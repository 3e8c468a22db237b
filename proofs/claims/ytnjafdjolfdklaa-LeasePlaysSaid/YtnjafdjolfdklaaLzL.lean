/- Who holds, as the document says it: Ok. No statement of the seat is proved here. -/
import Derived.Test.YtnjafdjolfdklaaLzK
namespace Go.Proofs.Ytnjafdjolfdklaa
set_option linter.unusedVariables false
set_option linter.unusedSimpArgs false
set_option linter.unusedSectionVars false
open Go.RowKit
variable [Floor]
def rokP (w : World) (g : Nat) (R : HO × Int) (e : Ending) (w' : World) : Prop := e = .returned (.int .i64 R.2) ∧ IsRHo w' g R.1 ∧ Keep (mods [4, 2]) w w'
theorem rok_lo (w : World) (g : Nat) (H : HO) (h : IsRHo w g H) (frm r n tick : Int) (hf : frm < 0) :
    Calls Try.prog 11 #[.pointer (some ⟨g, 0, none⟩), .int .i64 frm, balV r n, .int .i64 tick] w fun e w' => rokP w g (H, 2) e w' := by
  have HH := Lib.hid h
  unfold balV
  clear h
  go_enter Try.func11, Try.ntmps11
  go_wp2
  go_ret
  exact ⟨rfl, HH.out.keep ((Keep.refl nomod w).alloc _) (fun _ _ _ _ _ e => e), (Keep.refl _ _).alloc _⟩
theorem rok_hi (w : World) (g : Nat) (H : HO) (h : IsRHo w g H) (frm r n tick : Int) (hf : 0 ≤ frm) (hf2 : (H.N : Int) ≤ frm) :
    Calls Try.prog 11 #[.pointer (some ⟨g, 0, none⟩), .int .i64 frm, balV r n, .int .i64 tick] w fun e w' => rokP w g (H, 2) e w' := by
  have HH := Lib.hid h
  obtain ⟨hb, tb, hbb, h2, h3, _, _⟩ := h.lies
  have c2 : ∀ o, (w.alloc o).cell? ⟨g, 2, none⟩ = some (.int .i64 H.N) := fun o => cell_at (heap_old hbb o) rfl
  unfold balV
  clear h hbb h2 h3
  go_enter Try.func11, Try.ntmps11
  go_wp2
  go_ret
  exact ⟨rfl, HH.out.keep ((Keep.refl nomod w).alloc _) (fun _ _ _ _ _ e => e), (Keep.refl _ _).alloc _⟩
theorem rok_bad (w : World) (g : Nat) (H : HO) (h : IsRHo w g H) (frm r n tick : Int) (hf : 0 ≤ frm) (hf2 : frm < (H.N : Int)) (hbad : (mayB r n && timeB tick) = false) :
    Calls Try.prog 11 #[.pointer (some ⟨g, 0, none⟩), .int .i64 frm, balV r n, .int .i64 tick] w fun e w' => rokP w g (H, 2) e w' := by
  have HH := Lib.hid h
  have Hm := Lib.hid (fun W => rmay_c W r n)
  have Ht := Lib.hid (fun W => rtime_c W tick)
  obtain ⟨hb, tb, hbb, h2, h3, _, _⟩ := h.lies
  have c2 : ∀ o, (w.alloc o).cell? ⟨g, 2, none⟩ = some (.int .i64 H.N) := fun o => cell_at (heap_old hbb o) rfl
  unfold balV at *
  clear h hbb h2 h3
  cases hmb : mayB r n with
  | false =>
    rw [hmb] at Hm
    clear hbad hmb
    go_enter Try.func11, Try.ntmps11
    go_wp2_with (go_at_call 30; refine (Hm.out _).mono ?_; rintro e w1 ⟨rfl, hk1⟩)
    go_ret
    have hk := ((Keep.refl nomod w).alloc (.cells #[.int .u64 r, .int .i64 n] 24)).trans hk1
    exact ⟨rfl, HH.out.keep hk (fun _ _ _ _ _ e => e), hk.of_nomod⟩
  | true =>
    have ht : timeB tick = false := by rw [hmb] at hbad; exact hbad
    rw [hmb] at Hm
    rw [ht] at Ht
    clear hbad hmb ht
    go_enter Try.func11, Try.ntmps11
    go_wp2_with (first
      | (go_at_call 30; refine (Hm.out _).mono ?_; rintro e w1 ⟨rfl, hk1⟩)
      | (go_at_call 26; refine (Ht.out _).mono ?_; rintro e w' ⟨rfl, rfl⟩))
    go_ret
    have hk := ((Keep.refl nomod w).alloc (.cells #[.int .u64 r, .int .i64 n] 24)).trans hk1
    exact ⟨rfl, HH.out.keep hk (fun _ _ _ _ _ e => e), hk.of_nomod⟩
set_option maxRecDepth 100000 in
theorem rok_other (w : World) (g : Nat) (H : HO) (h : IsRHo w g H) (frm r n tick : Int) (hf : 0 ≤ frm) (hf2 : frm < (H.N : Int)) (hmb : mayB r n = true) (htb : timeB tick = true) (hne : ¬ (r = H.r ∧ n = H.n)) :
    Calls Try.prog 11 #[.pointer (some ⟨g, 0, none⟩), .int .i64 frm, balV r n, .int .i64 tick] w fun e w' => rokP w g (H, 0) e w' := by
  have HH := Lib.hid h
  have Hm := Lib.hid (fun W => rmay_c W r n)
  have Ht := Lib.hid (fun W => rtime_c W tick)
  rw [hmb] at Hm
  rw [htb] at Ht
  have hq := fun W => run_eql_bal W r n H.r H.n
  rw [show eqB r n H.r H.n = false from decide_eq_false hne] at hq
  obtain ⟨hb, tb, hbb, h2, h3, _, _⟩ := h.lies
  have c2 : ∀ o, (w.alloc o).cell? ⟨g, 2, none⟩ = some (.int .i64 H.N) := fun o => cell_at (heap_old hbb o) rfl
  unfold balV at *
  clear h h2 h3 hmb htb
  have HB := Lib.hid hbb
  clear hbb
  go_enter Try.func11, Try.ntmps11
  go_wp2_with fail
  refine (Hm.out _).mono ?_
  rintro e w1 ⟨rfl, hk1⟩
  have hk := ((Keep.refl nomod w).alloc (.cells #[.int .u64 r, .int .i64 n] 24)).trans hk1
  have b1 := hk1.block _ _ (heap_new w (.cells #[.int .u64 r, .int .i64 n] 24)) (fun e => e)
  have hG := hk.block _ _ HB.out (fun e => e)
  have bc0 := cell_at (i := 0) b1 rfl
  have bc1 := cell_at (i := 1) b1 rfl
  have g0 : w1.cell? ⟨g, 0, none⟩ = some (.int .u64 H.r) := cell_at hG rfl
  have g1 : w1.cell? ⟨g, 1, none⟩ = some (.int .i64 H.n) := cell_at hG rfl
  have HK := Lib.hid hk
  clear b1 hk1 hk hG c2
  go_wp2_with (go_at_call 26; refine (Ht.out _).mono ?_; rintro e w' ⟨rfl, rfl⟩)
  go_quiet (fail)
  go_wp2
  go_ret
  exact ⟨rfl, HH.out.keep (HK.out.drewN _) (fun _ _ _ _ _ e => e), (HK.out.drewN _).of_nomod⟩
theorem blocks_ne {w : World} {a b : Nat} {c c' : Array Value} {t t' : TypeId} {fr fr' : Nat × Nat} (h : w.heap[a]? = some (.cells c t fr)) (h' : w.heap[b]? = some (.cells c' t' fr')) (ht : t ≠ t') : a ≠ b := fun e => by
  subst e; rw [h] at h'; exact ht (Obj.cells.inj (Option.some.inj h')).2.1
theorem hasC_at {T : List (Option Int)} {i : Nat} (hi : i < T.length) : (hasC T)[i]? = some (.bool (T.getD i none).isSome) := by
  simp [hasC, List.getD, List.getElem?_eq_getElem hi]
theorem ticksC_at {T : List (Option Int)} {i : Nat} (hi : i < T.length) : (ticksC T)[i]? = some (.int .i64 ((T.getD i none).getD 0)) := by
  simp [ticksC, List.getD, List.getElem?_eq_getElem hi]
theorem hasC_set (T : List (Option Int)) (i : Nat) (t : Int) : (hasC T).setIfInBounds i (.bool true) = hasC (T.set i (some t)) := by
  simp [hasC, List.map_set]
theorem ticksC_set (T : List (Option Int)) (i : Nat) (t : Int) : (ticksC T).setIfInBounds i (.int .i64 t) = ticksC (T.set i (some t)) := by
  simp [ticksC, List.map_set]
set_option maxRecDepth 100000 in
set_option maxHeartbeats 400000 in
theorem rok_same (w : World) (g : Nat) (r n : Int) (N : Nat) (len bound : Int) (T : List (Option Int)) (h : IsRHo w g ⟨r, n, N, len, bound, T⟩) (i : Nat) (tick : Int) (hi : i < N) (hmb : mayB r n = true) (htb : timeB tick = true) :
    Calls Try.prog 11 #[.pointer (some ⟨g, 0, none⟩), .int .i64 (i : Int), balV r n, .int .i64 tick] w fun e w' => rokP w g (⟨r, n, N, len, bound, T.set i (some (max ((T.getD i none).getD 0) tick))⟩, 0) e w' := by
  have hb0 : 0 ≤ tick ∧ tick ≤ 17592186044416 := by simpa [timeB] using htb
  have Hm := Lib.hid (fun W => rmay_c W r n)
  have Ht := Lib.hid (fun W => rtime_c W tick)
  rw [hmb] at Hm
  rw [htb] at Ht
  have hq := fun W => run_eql_bal W r n r n
  rw [show eqB r n r n = true from decide_eq_true ⟨rfl, rfl⟩] at hq
  have HOk := Lib.hid h.ok
  obtain ⟨hb, tb, hbb, hh, ht, hfh, hft⟩ := h.lies
  change w.heap[g]? = some (.cells #[.int .u64 r, .int .i64 n, .int .i64 N, .int .i64 len, .int .i64 bound, .slice (some ⟨hb, 0, none⟩) N N, .slice (some ⟨tb, 0, none⟩) N N] 78 (0, 0)) at hbb
  change w.heap[hb]? = some (.cells (hasC T) 4 (0, 0)) at hh
  change w.heap[tb]? = some (.cells (ticksC T) 2 (0, 0)) at ht
  have c2 : ∀ o, (w.alloc o).cell? ⟨g, 2, none⟩ = some (.int .i64 N) := fun o => cell_at (heap_old hbb o) rfl
  have hTl : T.length = N := h.ok.len
  have hN7 : N ≤ 7 := h.ok.n7
  have hcur : ∀ o, T.getD i none = o → 0 ≤ o.getD 0 ∧ o.getD 0 ≤ 17592186044416 := by
    intro o ho
    cases o with
    | none => exact ⟨Int.le_refl _, by decide⟩
    | some u =>
      have hlt : i < T.length := by omega
      exact h.ok.ts i u (show T[i]? = some (some u) by rw [List.getD_eq_getElem?_getD, List.getElem?_eq_getElem hlt] at ho; rw [List.getElem?_eq_getElem hlt]; simpa using ho)
  have ha := hasC_at (T := T) (i := i) (by omega)
  have hta := ticksC_at (T := T) (i := i) (by omega)
  unfold balV at *
  obtain ⟨o, ho⟩ : ∃ o, T.getD i none = o := ⟨_, rfl⟩
  have hcur := hcur o ho
  rw [ho] at ha hta
  rw [ho]
  have HB := Lib.hid hbb
  have HH := Lib.hid hh
  have HT := Lib.hid ht
  have HTl := Lib.hid hTl
  have HA := Lib.hid ha
  have HTa := Lib.hid hta
  clear h hbb hh ht hmb htb ho hTl ha hta
  have hfin : ∀ W, Keep (mods [4, 2]) w W → W.heap[g]? = some (.cells (rhoC ⟨r, n, N, len, bound, T⟩ hb tb) 78 (0, 0)) →
      W.heap[hb]? = some (.cells ((hasC T).setIfInBounds i (.bool true)) 4 (0, 0)) → W.heap[tb]? = some (.cells ((ticksC T).setIfInBounds i (.int .i64 (max (o.getD 0) tick))) 2 (0, 0)) →
      rokP w g (⟨r, n, N, len, bound, T.set i (some (max (o.getD 0) tick))⟩, 0) (.returned (.int .i64 0)) W := by
    intro W hk h1 h2 h3
    refine ⟨rfl, ⟨⟨?_, HOk.out.n1, HOk.out.n7, HOk.out.l1, HOk.out.l2, HOk.out.b1, HOk.out.b2, ?_⟩, hb, tb, h1, ?_, ?_, hfh, hft⟩, hk⟩
    · show (T.set i _).length = N
      rw [List.length_set]; exact HTl.out
    · intro j u hj
      by_cases e : j = i
      · subst e
        rw [List.getElem?_set_self (by have := HTl.out; omega)] at hj
        cases hj
        omega
      · rw [List.getElem?_set_ne (fun e' => e e'.symm)] at hj
        exact HOk.out.ts j u hj
    · rw [← hasC_set]; exact h2
    · rw [← ticksC_set]; exact h3
  have HFin := Lib.hid hfin
  clear hfin
  go_enter Try.func11, Try.ntmps11
  go_wp2_with fail
  refine (Hm.out _).mono ?_
  rintro e w1 ⟨rfl, hk1⟩
  have hk := ((Keep.refl nomod w).alloc (.cells #[.int .u64 r, .int .i64 n] 24)).trans hk1
  have b1 := hk1.block _ _ (heap_new w (.cells #[.int .u64 r, .int .i64 n] 24)) (fun e => e)
  have hG := hk.block _ _ HB.out (fun e => e)
  have bc0 := cell_at (i := 0) b1 rfl
  have bc1 := cell_at (i := 1) b1 rfl
  have g0 : w1.cell? ⟨g, 0, none⟩ = some (.int .u64 r) := cell_at hG rfl
  have g1 : w1.cell? ⟨g, 1, none⟩ = some (.int .i64 n) := cell_at hG rfl
  have HK := Lib.hid hk
  clear b1 hk1 hk hG c2
  go_wp2_with (go_at_call 26; refine (Ht.out _).mono ?_; rintro e w' ⟨rfl, rfl⟩)
  go_quiet (fail)
  have hk2 := HK.out.drewN nq
  have hG2 := hk2.block _ _ HB.out (fun e => e)
  have hH2 := hk2.block _ _ HH.out (fun e => e)
  have hT2 := hk2.block _ _ HT.out (fun e => e)
  have HK2 := Lib.hid hk2
  have HG2 := Lib.hid hG2
  have HH2 := Lib.hid hH2
  have HT2 := Lib.hid hT2
  have hgh : g ≠ hb := blocks_ne hG2 hH2 (by decide)
  have hgt : g ≠ tb := blocks_ne hG2 hT2 (by decide)
  have hht : hb ≠ tb := blocks_ne hH2 hT2 (by decide)
  clear bc0 bc1 g0 g1 HK hk2 hG2 hH2 hT2 hq
  generalize w1.drewN nq = w2 at *
  have c5 : w2.cell? ⟨g, 5, none⟩ = some (.slice (some ⟨hb, 0, none⟩) N N) := cell_at HG2.out rfl
  have c6 : w2.cell? ⟨g, 6, none⟩ = some (.slice (some ⟨tb, 0, none⟩) N N) := cell_at HG2.out rfl
  have ch : w2.cell? ⟨hb, i, none⟩ = some (.bool o.isSome) := cell_at HH2.out HA.out
  have ct : w2.cell? ⟨tb, i, none⟩ = some (.int .i64 (o.getD 0)) := cell_at HT2.out HTa.out
  have fh : w2.frozen? ⟨hb, i, none⟩ = false := frozen_at HH2.out i
  have ft : w2.frozen? ⟨tb, i, none⟩ = false := frozen_at HT2.out i
  have k1 : Keep (mods [4, 2]) w w2 := HK2.out.of_nomod
  have kh : Keep (mods [4, 2]) w (w2.setCell ⟨hb, i, none⟩ (.bool true)) := k1.setCell_mods (p := ⟨hb, i, none⟩) HH2.out (by simp) hfh _
  cases o with
  | none =>
    have F : ∀ W, W = (w2.setCell ⟨tb, i, none⟩ (.int .i64 tick)).setCell ⟨hb, i, none⟩ (.bool true) → rokP w g (⟨r, n, N, len, bound, T.set i (some (max ((none : Option Int).getD 0) tick))⟩, 0) (.returned (.int .i64 0)) W := by
      rintro W rfl
      have k2 : Keep (mods [4, 2]) w (w2.setCell ⟨tb, i, none⟩ (.int .i64 tick)) := k1.setCell_mods (p := ⟨tb, i, none⟩) HT2.out (by simp) hft _
      have x1 := heap_setCell_block (o := i) HT2.out (.int .i64 tick)
      have x2 : (w2.setCell ⟨tb, i, none⟩ (.int .i64 tick)).heap[hb]? = _ := (heap_setCell_far (.int .i64 tick) (a := ⟨tb, i, none⟩) hht).trans HH2.out
      have x3 : (w2.setCell ⟨tb, i, none⟩ (.int .i64 tick)).heap[g]? = _ := (heap_setCell_far (.int .i64 tick) (a := ⟨tb, i, none⟩) hgt).trans HG2.out
      refine HFin.out _ (k2.setCell_mods (p := ⟨hb, i, none⟩) x2 (by simp) hfh _) ((heap_setCell_far _ (a := ⟨hb, i, none⟩) hgh).trans x3) (heap_setCell_block x2 _) ((heap_setCell_far _ (a := ⟨hb, i, none⟩) (Ne.symm hht)).trans ?_)
      rw [x1, show max ((none : Option Int).getD 0) tick = tick by show max 0 tick = tick; omega]
    have HF := Lib.hid F
    clear F kh k1 HK2 HG2 HH2 HT2 HFin hcur
    change w2.cell? ⟨hb, i, none⟩ = some (.bool false) at ch
    go_wp2
    go_ret
    exact HF.out _ rfl
  | some u =>
    change w2.cell? ⟨hb, i, none⟩ = some (.bool true) at ch
    change w2.cell? ⟨tb, i, none⟩ = some (.int .i64 u) at ct
    by_cases hlt : u < tick
    · have F : ∀ W, W = (w2.setCell ⟨tb, i, none⟩ (.int .i64 tick)).setCell ⟨hb, i, none⟩ (.bool true) → rokP w g (⟨r, n, N, len, bound, T.set i (some (max ((some u : Option Int).getD 0) tick))⟩, 0) (.returned (.int .i64 0)) W := by
        rintro W rfl
        have k2 : Keep (mods [4, 2]) w (w2.setCell ⟨tb, i, none⟩ (.int .i64 tick)) := k1.setCell_mods (p := ⟨tb, i, none⟩) HT2.out (by simp) hft _
        have x1 := heap_setCell_block (o := i) HT2.out (.int .i64 tick)
        have x2 : (w2.setCell ⟨tb, i, none⟩ (.int .i64 tick)).heap[hb]? = _ := (heap_setCell_far (.int .i64 tick) (a := ⟨tb, i, none⟩) hht).trans HH2.out
        have x3 : (w2.setCell ⟨tb, i, none⟩ (.int .i64 tick)).heap[g]? = _ := (heap_setCell_far (.int .i64 tick) (a := ⟨tb, i, none⟩) hgt).trans HG2.out
        refine HFin.out _ (k2.setCell_mods (p := ⟨hb, i, none⟩) x2 (by simp) hfh _) ((heap_setCell_far _ (a := ⟨hb, i, none⟩) hgh).trans x3) (heap_setCell_block x2 _) ((heap_setCell_far _ (a := ⟨hb, i, none⟩) (Ne.symm hht)).trans ?_)
        rw [x1, show max ((some u : Option Int).getD 0) tick = tick by show max u tick = tick; omega]
      have HF := Lib.hid F
      clear F kh k1 HK2 HG2 HH2 HT2 HFin hcur
      go_wp2
      go_ret
      exact HF.out _ rfl
    · have F : ∀ W, W = w2.setCell ⟨hb, i, none⟩ (.bool true) → rokP w g (⟨r, n, N, len, bound, T.set i (some (max ((some u : Option Int).getD 0) tick))⟩, 0) (.returned (.int .i64 0)) W := by
        rintro W rfl
        refine HFin.out _ kh ((heap_setCell_far _ (a := ⟨hb, i, none⟩) hgh).trans HG2.out) (heap_setCell_block HH2.out _) ((heap_setCell_far _ (a := ⟨hb, i, none⟩) (Ne.symm hht)).trans ?_)
        rw [HT2.out, show max ((some u : Option Int).getD 0) tick = u by show max u tick = u; omega]
        congr 2
        have h1 := HTa.out
        apply Array.ext_getElem?
        intro j
        rw [Array.getElem?_setIfInBounds]
        split
        · rename_i e; subst e
          rw [h1]; split
          · rfl
          · rename_i h2; rw [Array.getElem?_eq_none (by omega)] at h1; cases h1
        · rfl
      have HF := Lib.hid F
      clear F kh k1 HK2 HG2 HH2 HT2 HFin hcur
      go_wp2
      go_ret
      exact HF.out _ rfl
theorem rok_c (w : World) (g : Nat) (H : HO) (h : IsRHo w g H) (frm r n tick : Int) :
    Calls Try.prog 11 #[.pointer (some ⟨g, 0, none⟩), .int .i64 frm, balV r n, .int .i64 tick] w fun e w' => rokP w g (okW H frm r n tick) e w' := by
  unfold okW
  by_cases h1 : frm < 0
  · rw [if_pos (.inl h1)]; exact rok_lo w g H h frm r n tick h1
  · by_cases h2 : (H.N : Int) ≤ frm
    · rw [if_pos (.inr (.inl h2))]; exact rok_hi w g H h frm r n tick (by omega) h2
    · by_cases h3 : (mayB r n && timeB tick) = false
      · rw [if_pos (.inr (.inr h3))]; exact rok_bad w g H h frm r n tick (by omega) (by omega) h3
      · rw [if_neg (fun e => e.elim h1 (fun e => e.elim h2 h3))]
        have h4 : mayB r n = true ∧ timeB tick = true := by simpa using h3
        by_cases he : r = H.r ∧ n = H.n
        · rw [if_pos he]
          obtain ⟨r', n', N, len, bound, T⟩ := H
          obtain ⟨i, rfl⟩ : ∃ i : Nat, frm = i := ⟨frm.toNat, by omega⟩
          obtain ⟨rfl, rfl⟩ := he
          exact rok_same w g _ _ N len bound T h i tick (by have h5 : ¬ (N : Int) ≤ (i : Int) := h2; omega) h4.1 h4.2
        · rw [if_neg he]
          exact rok_other w g H h frm r n tick (by omega) (by omega) h4.1 h4.2 he
end Go.Proofs.Ytnjafdjolfdklaa
