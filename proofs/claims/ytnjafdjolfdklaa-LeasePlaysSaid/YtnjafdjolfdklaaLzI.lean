/- Who holds: Ok, where it counts. No statement of the seat is proved here. -/
import Derived.Test.YtnjafdjolfdklaaLzH
namespace Go.Proofs.Ytnjafdjolfdklaa
set_option linter.unusedVariables false
set_option linter.unusedSimpArgs false
set_option linter.unusedSectionVars false
open Go.RowKit Go.Maps
variable [Floor]
theorem run_max64 (w : World) (x y : Int) : (Builtin.max_ #[2, 2] 2 #[.int .i64 x, .int .i64 y]).run Try.prog w = .ok (.int .i64 (max x y)) w := by
  have e : max x y = if x < y then y else x := by split <;> omega
  rw [e]
  unfold Builtin.max_
  simp [Builtin.max2]
theorem zero64 (w : World) : (zeroValue 2).run Try.prog w = .ok (.int .i64 0) w := by kernel_rfl
theorem wf64 (x : Int) (h1 : -9223372036854775808 ≤ x) (h2 : x ≤ 9223372036854775807) : (Lit.int .i64 x).wf = true := WalkArith.wf_i64 ⟨h1, h2⟩
theorem MapIs.get {D : DataW Unit} {T : List (Option Int)} (h : MapIs D T) {i : Nat} (hi : i < T.length) : D.atKey (.int .i64 (i : Int)) (.lit (.int .i64 0)) = .lit (.int .i64 ((T.getD i none).getD 0)) := by
  cases ho : T.getD i none with
  | none =>
    refine atKey_of_not_has ?_ _
    cases hh : Maps.has D (.int .i64 (i : Int)) with
    | false => rfl
    | true =>
      obtain ⟨j, u, e, hj⟩ := (h.hs _).1 hh
      obtain rfl : i = j := by omega
      simp [List.getD, hj] at ho
  | some u =>
    rw [List.getD_eq_getElem?_getD, List.getElem?_eq_getElem hi] at ho
    exact h.at_ i u (by rw [List.getElem?_eq_getElem hi]; simpa using ho) _
theorem wp_mapUpdate {H : Type} {P : Program} (w : World) {o : Oper} {a : Act} {K : Act → World → Prop} {Q : Exit → Act → World → Prop} (m x v : Operand) (t : TypeId) (hop : o.op = Op.mapUpdate t m x v)
    (k e : TypeId) (Kd : Keyed P k) (ht : P.underlying t = some (.map k e)) (R : Value → Option (DataW H × List MemPlace)) (b n : Nat) (D : DataW H)
    (hm : a.eval m = .map (some b)) (hown : w.ownsMap P k R b n D) (hn : n < maxLen) (key val : Value) (kl : Lit) (hx : a.eval x = key) (hv : a.eval v = val) (hkey : keyOf P k key = some kl)
    (d : DataW H) (ps : List MemPlace) (hval : R val = some (d, ps)) (hK : ∀ w', w'.ownsMap P k R b (n + 1) (D.put kl d) → w.grownBy w' (some b) → K (a.put o.dst undef) w') : o.wp P a w K Q := by
  obtain ⟨w', hrun, r1, r2⟩ := hown.update Kd ht hn hkey hval
  refine wp_unit (w' := w') ?_ (hK w' r1 r2)
  unfold execOp
  simp only [hop, hm, hx, hv]
  exact exec_u hrun
theorem grown_map {l : List Nat} {a w w' : World} {b : Nat} (h : Keep (mods l) a w) {es : Array MapEntry} {c : Nat} (hb : w.heap[b]? = some (.map es c)) (hl : tagMap ∈ l) (hf : Floor.b ≤ b) (hg : w.grownBy w' (some b)) : Keep (mods l) a w' :=
  h.grown hg fun k o hk ho => by
    cases hk
    by_cases hm : tagOf o ∈ l
    · exact ⟨hm, hf⟩
    · have := h.block b o ho (fun e => hm e.1)
      rw [hb] at this
      cases this
      exact absurd hl hm
set_option maxRecDepth 100000 in
set_option maxHeartbeats 400000 in
theorem ok_same (w : World) (g : Nat) (r n : Int) (N : Nat) (len bound : Int) (T : List (Option Int)) (h : IsHo w g ⟨r, n, N, len, bound, T⟩) (i : Nat) (tick : Int) (hi : i < N) (hmb : mayB r n = true) (htb : timeB tick = true) :
    Calls Try.prog 10 #[.pointer (some ⟨g, 0, none⟩), .int .i64 (i : Int), balV r n, .int .i64 tick] w fun e w' => okP w g (⟨r, n, N, len, bound, T.set i (some (max ((T.getD i none).getD 0) tick))⟩, 0) e w' := by
  have hb : 0 ≤ tick ∧ tick ≤ 17592186044416 := by simpa [timeB] using htb
  have Hm := Lib.hid (fun W => may_c W r n)
  have Ht := Lib.hid (fun W => time_c W tick)
  rw [hmb] at Hm
  rw [htb] at Ht
  have hq := fun W => run_eql_bal W r n r n
  rw [show eqB r n r n = true from decide_eq_true ⟨rfl, rfl⟩] at hq
  have HOk := Lib.hid h.ok
  have HFl := Lib.hid h.fl
  obtain ⟨bm, D, hbb, hm, hmi, hfb⟩ := h.lies
  change w.heap[g]? = some (.cells #[.int .u64 r, .int .i64 n, .int .i64 N, .int .i64 len, .int .i64 bound, .map (some bm)] 74 (0, 0)) at hbb
  have c2 : ∀ o, (w.alloc o).cell? ⟨g, 2, none⟩ = some (.int .i64 N) := fun o => cell_at (heap_old hbb o) rfl
  have hTl : T.length = N := h.ok.len
  have hN7 : N ≤ 7 := h.ok.n7
  have hcur : 0 ≤ (T.getD i none).getD 0 ∧ (T.getD i none).getD 0 ≤ 17592186044416 := by
    cases ho : T.getD i none with
    | none => exact ⟨Int.le_refl _, by decide⟩
    | some u =>
      have hlt : i < T.length := by omega
      exact h.ok.ts i u (show T[i]? = some (some u) by rw [List.getD_eq_getElem?_getD, List.getElem?_eq_getElem hlt] at ho; rw [List.getElem?_eq_getElem hlt]; simpa using ho)
  have hmi : MapIs D T := hmi
  have hget := hmi.get (i := i) (by omega)
  unfold balV at *
  obtain ⟨cur, hcu⟩ : ∃ cur, (T.getD i none).getD 0 = cur := ⟨_, rfl⟩
  rw [hcu] at hget hcur
  rw [hcu]
  have HGet := Lib.hid hget
  have HMi := Lib.hid hmi
  have HMm := Lib.hid hm
  have HTl := Lib.hid hTl
  clear h hm hmi hmb htb hget hcu hTl
  have HB := Lib.hid hbb
  clear hbb
  go_enter Try.func10, Try.ntmps10
  go_wp2_with fail
  refine (Hm.out _).mono ?_
  rintro e w1 ⟨rfl, hk1⟩
  have hk := ((Keep.refl nomod w).alloc (.cells #[.int .u64 r, .int .i64 n] 24)).trans hk1
  have b1 := hk1.block _ _ (heap_new w (.cells #[.int .u64 r, .int .i64 n] 24)) (fun e => e)
  have hG := hk.block _ _ HB.out (fun e => e)
  have bc0 := cell_at (i := 0) b1 rfl
  have bc1 := cell_at (i := 1) b1 rfl
  have g0 : w1.cell? ⟨g, 0, none⟩ = some (.int .u64 r) := cell_at hG rfl
  have g1 : w1.cell? ⟨g, 1, none⟩ = some (.int .i64 n) := cell_at hG rfl
  have HK := Lib.hid hk
  clear b1 hk1 hk hG c2
  go_wp2_with (go_at_call 25; refine (Ht.out _).mono ?_; rintro e w' ⟨rfl, rfl⟩)
  go_quiet (fail)
  go_wp2
  have hk2 := HK.out.drewN nq
  have hG2 := hk2.block _ _ HB.out (fun e => e)
  have hM2 : (w1.drewN nq).ownsMap Try.prog 3 (plainElem Try.prog 2) bm (Maps.size D) D := by
    obtain ⟨es, clock, hb', F, hs, hD⟩ := HMm.out
    exact ⟨es, clock, hk2.block _ _ hb' (fun e => e), F, hs, hD⟩
  have HK2 := Lib.hid hk2
  have HG2 := Lib.hid hG2
  have HM2 := Lib.hid hM2
  clear bc0 bc1 g0 g1 HK hk2 hG2 hM2 hq
  generalize w1.drewN nq = w2 at *
  have hwf := wf64 (i : Int) (by omega) (by omega)
  have hkey : keyOf Try.prog 3 (.int .i64 (i : Int)) = some (.int .i64 (i : Int)) := keyOf_int_mk Try.underlying3 hwf
  have hlook : ∀ W, W.ownsMap Try.prog 3 (plainElem Try.prog 2) bm (Maps.size D) D → (Instr.lookup 72 (.map (some bm)) (.int .i64 (i : Int)) false).run Try.prog W = .ok (.int .i64 cur) W := fun W hW => by
    obtain ⟨c, hrun, hat, _⟩ := hW.lookup_int (int_keyed Try.underlying3) Try.underlying72 Try.underlying2 (zero64 W) hkey
    rw [HGet.out] at hat
    simp only [DataW.lit.injEq, Lit.int.injEq, true_and] at hat
    rw [hrun, hat]
  have HL := Lib.hid hlook
  have HKy := Lib.hid hkey
  clear hlook hkey hwf
  obtain ⟨mx, hmx⟩ : ∃ mx, max cur tick = mx := ⟨_, rfl⟩
  have HMX := Lib.hid hmx
  have hmaxr : ∀ W, (Builtin.max_ #[2, 2] 2 #[.int .i64 cur, .int .i64 tick]).run Try.prog W = .ok (.int .i64 mx) W := by
    intro W; rw [run_max64, HMX.out]
  clear hmx
  refine wp_region_mv (fun k W => (k = 3 ∨ k = 8 ∨ k = 10) → W.cell? ⟨g, 5, none⟩ = some (.map (some bm)) ∧ (Instr.lookup 72 (.map (some bm)) (.int .i64 (i : Int)) false).run Try.prog W = .ok (.int .i64 cur) W)
    (.still 0 (.still 1 (.still 2 (.still 3 (.still 4 (.still 5 (.still 6 (.still 7 (.still 8 (.still 9 (.still 10 (.still 11 (.still 12 (.act 13 [] (.fin))))))))))))))) (by kernel_rfl) (by kernel_rfl) (by kernel_rfl) (fun _ _ _ _ _ h => h) (fun _ _ => ⟨cell_at (i := 5) HG2.out rfl, HL.out _ HM2.out⟩) ?_
  iterate 13
    refine m3_still _ _ rfl rfl (by intro W hS; go_simp; first | done | exact rfl) ?_
    simp only [List.getElem_toArray, List.getElem_cons_succ, List.getElem_cons_zero, Act.put, List.setIfInBounds_toArray, List.set_cons_succ, List.set_cons_zero]
  refine m3_act _ rfl rfl (fun K hK => ?_)
  refine wp_mapUpdate _ (.tmp 37) (.tmp 38) (.tmp 46) 72 rfl 3 2 (int_keyed Try.underlying3) Try.underlying72 (plainElem Try.prog 2) bm (Maps.size D) D rfl HM2.out (by rw [HMi.out.size]; have := length_fm T; have := HTl.out; unfold maxLen; omega) _ _ _ rfl rfl HKy.out _ [] (plainElem_int Try.underlying2 (wf64 mx (by have := HMX.out; omega) (by have := HMX.out; omega))) ?_
  intro w3 hown3 hg3
  refine hK _ _ (fun k hk h => (by cases hk)) ?_
  clear hK K
  simp only [Act.put, List.setIfInBounds_toArray, List.set_cons_succ, List.set_cons_zero]
  refine m3_end ?_
  go_wp2
  go_ret
  obtain ⟨es, clock, hbm, _⟩ := HM2.out
  have hgb : g ≠ bm := fun e => by subst e; have h1 := HG2.out; rw [hbm] at h1; cases h1
  have hg4 : w3.heap[g]? = _ := (hg3.block g (heap_lt HG2.out) (fun e => hgb (by cases e; rfl))).trans HG2.out
  rw [HMX.out]
  refine ⟨rfl, ⟨⟨?_, HOk.out.n1, HOk.out.n7, HOk.out.l1, HOk.out.l2, HOk.out.b1, HOk.out.b2, ?_⟩, HFl.out, bm, _, hg4, ownsMap_tight hown3, HMi.out.put (HM2.out.tidy (int_keyed Try.underlying3)) (by have := HTl.out; omega) mx (wf64 _ (by omega) (by omega)), hfb⟩, grown_map (HK2.out.drew.of_nomod) hbm (List.mem_singleton.2 rfl) hfb hg3⟩
  · show (T.set i (some mx)).length = N
    rw [List.length_set]; exact HTl.out
  · intro j u hj
    by_cases e : j = i
    · subst e
      rw [List.getElem?_set_self (by have := HTl.out; omega)] at hj
      cases hj
      have := HMX.out
      omega
    · rw [List.getElem?_set_ne (fun e' => e e'.symm)] at hj
      exact HOk.out.ts j u hj
theorem ok_c (w : World) (g : Nat) (H : HO) (h : IsHo w g H) (frm r n tick : Int) :
    Calls Try.prog 10 #[.pointer (some ⟨g, 0, none⟩), .int .i64 frm, balV r n, .int .i64 tick] w fun e w' => okP w g (okW H frm r n tick) e w' := by
  unfold okW
  by_cases h1 : frm < 0
  · rw [if_pos (.inl h1)]; exact ok_lo w g H h frm r n tick h1
  · by_cases h2 : (H.N : Int) ≤ frm
    · rw [if_pos (.inr (.inl h2))]; exact ok_hi w g H h frm r n tick (by omega) h2
    · by_cases h3 : (mayB r n && timeB tick) = false
      · rw [if_pos (.inr (.inr h3))]; exact ok_bad w g H h frm r n tick (by omega) (by omega) h3
      · rw [if_neg (fun e => e.elim h1 (fun e => e.elim h2 h3))]
        have h4 : mayB r n = true ∧ timeB tick = true := by simpa using h3
        by_cases he : r = H.r ∧ n = H.n
        · rw [if_pos he]
          obtain ⟨r', n', N, len, bound, T⟩ := H
          obtain ⟨i, rfl⟩ : ∃ i : Nat, frm = i := ⟨frm.toNat, by omega⟩
          obtain ⟨rfl, rfl⟩ := he
          exact ok_same w g _ _ N len bound T h i tick (by have h5 : ¬ (N : Int) ≤ (i : Int) := h2; omega) h4.1 h4.2
        · rw [if_neg he]
          exact ok_other w g H h frm r n tick (by omega) (by omega) h4.1 h4.2 he
end Go.Proofs.Ytnjafdjolfdklaa
