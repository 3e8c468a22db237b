/- Who holds, as the document says it: how long. No statement of the seat is proved here. -/
import Derived.Test.YtnjafdjolfdklaaLzL
import Derived.Test.YtnjafdjolfdklaaInts
import Derived.Test.YtnjafdjolfdklaaCalls0
namespace Go.Proofs.Ytnjafdjolfdklaa
set_option linter.unusedVariables false
set_option linter.unusedSimpArgs false
set_option linter.unusedSectionVars false
open Go.RowKit
variable [Floor]
theorem IntsIn.own {w : World} {base : Nat} {v : Value} {l : List Int} (h : w.ownsRow base 3 1 v l.length (cellsI l)) : IntsIn w v l := by
  rcases h.2 with ⟨hv, hn⟩ | ⟨g, cap, cs, hv, _, hrow, _, _, hcs, htk⟩
  · have hl : l = [] := List.eq_nil_of_length_eq_zero hn
    subst hl
    exact ⟨none, 0, hv, fun j x hx => by cases hx⟩
  · refine ⟨_, cap, hv, fun j x hx => ⟨g, 0, rfl, ?_⟩⟩
    have h1 : (cellsI l)[j]? = some (Value.int .i64 x) := by simp [cellsI, hx]
    rw [← htk, List.getElem?_take] at h1
    split at h1
    · exact cell_at (i := 0 + j) hrow (by simpa using h1)
    · cases h1
def geB (o : Option Int) (t : Int) : Bool := match o with | some u => decide (t ≤ u) | none => false
/-- those whose tick is t or more -/
def whoL (T : List (Option Int)) (t : Int) (k : Nat) : List Int := ((List.range k).filter fun j => geB (T.getD j none) t).map fun (j : Nat) => (j : Int)
theorem whoL_succ (T : List (Option Int)) (t : Int) (k : Nat) : whoL T t (k + 1) = whoL T t k ++ if geB (T.getD k none) t = true then [(k : Int)] else [] := by
  unfold whoL
  rw [List.range_succ, List.filter_append, List.map_append]
  congr 1
  cases h : geB (T.getD k none) t with
  | true => simp only [List.filter_cons, h, if_true, List.filter_nil, List.map_cons, List.map_nil]
  | false => simp only [List.filter_cons, h, Bool.false_eq_true, if_false, List.filter_nil, List.map_nil]
theorem whoL_len (T : List (Option Int)) (t : Int) (k : Nat) : (whoL T t k).length ≤ k := by
  unfold whoL
  rw [List.length_map]
  exact Nat.le_trans (List.length_filter_le _ _) (by simp)
def quoB (T : List (Option Int)) (N : Nat) (t : Int) : Bool := decide (N / 2 + 1 ≤ votesN (whoL T t N) N)
def bestR (T : List (Option Int)) (N : Nat) : Nat → Option Int
  | 0 => none
  | i + 1 => match T.getD i none with
    | none => bestR T N i
    | some t => if quoB T N t = true ∧ (∀ b, bestR T N i = some b → b < t) then some t else bestR T N i
theorem bestR_bd {H : HO} (h : H.Ok) : ∀ i b, bestR H.T H.N i = some b → 0 ≤ b ∧ b ≤ 17592186044416
  | 0, b, hb => by cases hb
  | i + 1, b, hb => by
    rw [bestR] at hb
    split at hb
    · exact bestR_bd h i b hb
    · rename_i t ht
      split at hb
      · cases hb
        refine h.ts i b ?_
        cases hj : H.T[i]? with
        | none => simp [List.getD, hj] at ht
        | some o => simp [List.getD, hj] at ht; rw [ht]
      · exact bestR_bd h i b hb
def runtilW (H : HO) : Int × Bool := match bestR H.T H.N H.N with | none => (0, false) | some b => (b + H.len - 2 * H.bound, true)
set_option maxRecDepth 100000 in
set_option maxHeartbeats 1000000 in
theorem rhountil_c (w : World) (g : Nat) (H : HO) (h : IsRHo w g H) :
    Calls Try.prog 13 #[.pointer (some ⟨g, 0, none⟩)] w fun e w' => e = .returned (.tuple #[.int .i64 (runtilW H).1, .bool (runtilW H).2]) ∧ Keep nomod w w' := by
  have HOk := Lib.hid h.ok
  have hbd := fun i b e => bestR_bd h.ok i b e
  obtain ⟨hb, tb, hbb, hh, ht, _, _⟩ := h.lies
  have hN7 : H.N ≤ 7 := h.ok.n7
  have hTl := h.ok.len
  have hb1 := h.ok.b1
  have hb2 := h.ok.b2
  have hl1 := h.ok.l1
  have hl2 := h.ok.l2
  have hts := h.ok.ts
  have HRW : Hid (runtilW H = match bestR H.T H.N H.N with | none => (0, false) | some b => (b + H.len - 2 * H.bound, true)) := Lib.hid rfl
  obtain ⟨r, n, N, len, bound, T⟩ := H
  dsimp only at *
  have HB := Lib.hid hbb
  have HH := Lib.hid hh
  have HT := Lib.hid ht
  have HTl := Lib.hid hTl
  have HTs := Lib.hid hts
  have HBd := Lib.hid hbd
  clear h hbb hh ht hTl hts hbd
  have hfacts : ∀ W, Keep nomod w W → W.cell? ⟨g, 2, none⟩ = some (.int .i64 N) ∧ W.cell? ⟨g, 5, none⟩ = some (.slice (some ⟨hb, 0, none⟩) N N) ∧ W.cell? ⟨g, 6, none⟩ = some (.slice (some ⟨tb, 0, none⟩) N N) ∧
      (∀ i, i < N → W.cell? ⟨hb, i, none⟩ = some (.bool (T.getD i none).isSome) ∧ W.cell? ⟨tb, i, none⟩ = some (.int .i64 ((T.getD i none).getD 0))) ∧ W.cell? ⟨g, 3, none⟩ = some (.int .i64 len) ∧ W.cell? ⟨g, 4, none⟩ = some (.int .i64 bound) := by
    intro W hk
    have x1 := hk.block _ _ HB.out (fun e => e)
    have x2 := hk.block _ _ HH.out (fun e => e)
    have x3 := hk.block _ _ HT.out (fun e => e)
    exact ⟨cell_at x1 rfl, cell_at x1 rfl, cell_at x1 rfl, fun i hi => ⟨cell_at x2 (hasC_at (by rw [HTl.out]; exact hi)), cell_at x3 (ticksC_at (by rw [HTl.out]; exact hi))⟩, cell_at x1 rfl, cell_at x1 rfl⟩
  have HF := Lib.hid hfacts
  clear hfacts
  go_enter Try.func13, Try.ntmps13
  go_wp2
  go_loopw [4, 5, 6] (fun bv iv cv W => ∃ (i : Nat) (o : Option Int), i ≤ N ∧ cv = .int .i64 (i : Int) ∧ bv = .int .i64 (o.getD 0) ∧ iv = .bool o.isSome ∧ Hid (o = bestR T N i) ∧ Hid (Keep nomod w W)) (fun _ _ cv _ => N - (intOf cv).toNat)
  case atStart => exact ⟨0, none, Nat.zero_le _, rfl, rfl, rfl, Lib.hid rfl, Lib.hid (Keep.refl _ _)⟩
  case round =>
    obtain ⟨i, o, hi, rfl, rfl, rfl, HO1, HK⟩ := hrel
    obtain ⟨c2, c5, c6, chi, c3, c4⟩ := HF.out wr HK.out
    by_cases hlt : i < N
    · obtain ⟨ch, ct⟩ := chi i hlt
      clear chi
      have hbs : bestR T N (i + 1) = match T.getD i none with | none => bestR T N i | some t => if quoB T N t = true ∧ (∀ b, bestR T N i = some b → b < t) then some t else bestR T N i := rfl
      have HBS := Lib.hid hbs
      clear hbs
      obtain ⟨oi, hoi⟩ : ∃ oi, T.getD i none = oi := ⟨_, rfl⟩
      rw [hoi] at ch ct HBS
      have HOI := Lib.hid hoi
      clear hoi
      cases oi with
      | none =>
        change wr.cell? ⟨hb, i, none⟩ = some (.bool false) at ch
        go_wp2
        go_roundw
        case rel => exact ⟨i + 1, o, by omega, by go_num, rfl, rfl, Lib.hid (by rw [HBS.out]; exact HO1.out), HK⟩
        case measure => simp [intOf]; omega
      | some t =>
        change wr.cell? ⟨hb, i, none⟩ = some (.bool true) at ch
        change wr.cell? ⟨tb, i, none⟩ = some (.int .i64 t) at ct
        go_wp2
        obtain ⟨wo, rfl⟩ : ∃ wo : World, wo = wr := ⟨_, rfl⟩
        clear ch ct c2 c5 c6 c3 c4
        go_loopw [7, 8] (fun v kv W => ∃ (a c : Nat) (q : Option Addr), a ≤ N ∧ kv = .int .i64 (a : Int) ∧ v = .slice q (whoL T t a).length c ∧ Hid (W.ownsRow w.heap.size 3 1 v (whoL T t a).length (cellsI (whoL T t a))) ∧ Hid (Keep nomod w W)) (fun _ kv _ => N - (intOf kv).toNat)
        case atStart => exact ⟨0, 0, none, Nat.zero_le _, rfl, rfl, Lib.hid (World.ownsRow_nil _ _ _ _), HK⟩
        case round =>
          obtain ⟨a, c, q, ha, rfl, rfl, HR, HK2⟩ := hrel
          clear HK
          obtain ⟨c2, c5, c6, chi, c3, c4⟩ := HF.out wr HK2.out
          have hi0 : (0 : Int) ≤ (i : Int) := by omega
          have hi1 : (i : Int) < (N : Int) := by omega
          by_cases hla : a < N
          · have ha0 : (0 : Int) ≤ (a : Int) := by omega
            have ha1 : (a : Int) < (N : Int) := by omega
            obtain ⟨ch, ct⟩ := chi a hla
            obtain ⟨_, cti⟩ := chi i hlt
            rw [HOI.out] at cti
            change wr.cell? ⟨tb, i, none⟩ = some (.int .i64 t) at cti
            clear chi c3 c4
            have hws := whoL_succ T t a
            have hwl := whoL_len T t a
            obtain ⟨oa, hoa⟩ : ∃ oa, T.getD a none = oa := ⟨_, rfl⟩
            rw [hoa] at ch ct hws
            have HWS := Lib.hid hws
            clear hoa hws
            generalize whoL T t a = l at *
            have hnil : ∀ X : List Int, X = l ++ [] → X = l := fun X e => by rw [e, List.append_nil]
            have HNil := Lib.hid hnil
            clear hnil
            cases oa with
            | none =>
              have HW2 := Lib.hid (HNil.out _ (HWS.out.trans (by rfl)))
              change wr.cell? ⟨hb, a, none⟩ = some (.bool false) at ch
              clear HWS HNil
              go_wp2
              go_quiet (fail)
              go_wp2
              go_roundw
              case rel => exact ⟨a + 1, c, q, by omega, by go_num, by rw [HW2.out], Lib.hid (by rw [HW2.out]; exact ownsRow_mods HR.out ((Keep.refl (mods []) _).drewN _) (by decide)), Lib.hid (HK2.out.drewN _)⟩
              case measure => simp [intOf]; omega
            | some u =>
              change wr.cell? ⟨hb, a, none⟩ = some (.bool true) at ch
              change wr.cell? ⟨tb, a, none⟩ = some (.int .i64 u) at ct
              by_cases htu : t ≤ u
              · have HW2 := Lib.hid (HWS.out.trans (by rw [if_pos (show geB (some u) t = true from decide_eq_true htu)]) : whoL T t (a + 1) = l ++ [(a : Int)])
                clear HWS HNil
                go_wp2
                go_quiet (fail)
                have HR2 : Hid ((wr.drewN nq).ownsRow w.heap.size 3 1 (.slice q l.length c) l.length (cellsI l)) := Lib.hid (ownsRow_mods HR.out ((Keep.refl (mods []) _).drewN _) (by decide))
                have HK3 := Lib.hid (HK2.out.drewN nq)
                clear c2 c5 c6 ch ct cti HR HK2
                generalize wr.drewN nq = w2 at *
                go_upto_region 11 with (fail)
                apply wp_region_lit
                refine ls_same (.slice q l.length c) rfl (by go_simp) ?_
                simp only [Act.put, List.setIfInBounds_toArray, List.set_cons_succ, List.set_cons_zero]
                refine ls_same (.int .i64 (a : Int)) rfl (by go_simp) ?_
                simp only [Act.put, List.setIfInBounds_toArray, List.set_cons_succ, List.set_cons_zero]
                refine ls_val rfl (exec_buildSlice1 rfl rfl (run_slice_int _ _)) ?_
                simp only [Act.put, List.setIfInBounds_toArray, List.set_cons_succ, List.set_cons_zero]
                have o5 := World.ownsRow.alloc HR2.out (.cells #[.int .i64 (a : Int)] 3)
                have g5 := heap_new w2 (.cells #[.int .i64 (a : Int)] 3)
                have k5 := (HK3.out).alloc (.cells #[.int .i64 (a : Int)] 3)
                generalize w2.alloc (.cells #[.int .i64 (a : Int)] 3) = w5 at *
                refine ls_act rfl (fun K hK => append_int rfl _ _ _ rfl w.heap.size (.slice q l.length c) l rfl o5 _ (a : Int) rfl g5 (by omega) k5.size ?_)
                intro g6 cap6 w6 o6 hg6 hgg hgl
                refine hK _ _ ?_
                clear hK
                simp only [Act.put, List.setIfInBounds_toArray, List.set_cons_succ, List.set_cons_zero]
                have k6 : Keep nomod w w6 := k5.grown hg6 (fun k o e hk => absurd (heap_lt hk) (by have := (o5.lt k e).1; omega))
                have K6 := Lib.hid k6
                have O6 := Lib.hid o6
                clear k6 o6 hg6 hgg k5 g5 o5 HR2 HK3
                go_wp2
                go_roundw
                case rel => exact ⟨a + 1, cap6, some ⟨g6, 0, none⟩, by omega, by go_num, by rw [HW2.out]; simp, Lib.hid (by rw [HW2.out]; simpa using O6.out), K6⟩
                case measure => simp [intOf]; omega
              · have HW2 := Lib.hid (HNil.out _ (HWS.out.trans (by rw [if_neg (show ¬ geB (some u) t = true from fun e => htu (of_decide_eq_true e))])))
                clear HWS HNil
                go_wp2
                go_quiet (fail)
                go_wp2
                go_roundw
                case rel => exact ⟨a + 1, c, q, by omega, by go_num, by rw [HW2.out], Lib.hid (by rw [HW2.out]; exact ownsRow_mods HR.out ((Keep.refl (mods []) _).drewN _) (by decide)), Lib.hid (HK2.out.drewN _)⟩
                case measure => simp [intOf]; omega
          · have haN : a = N := by omega
            subst haN
            obtain ⟨_, cti⟩ := chi i hlt
            rw [HOI.out] at cti
            change wr.cell? ⟨tb, i, none⟩ = some (.int .i64 t) at cti
            clear chi c3 c4
            have hwl := whoL_len T t a
            have HQ := Lib.hid (quorum_c wr (.slice q (whoL T t a).length c) (whoL T t a) (IntsIn.own HR.out) a (by omega) (by omega))
            rw [show decide (a / 2 + 1 ≤ votesN (whoL T t a) a) = quoB T a t from rfl] at HQ
            have HQv : Hid (quoB T a t = quoB T a t) := Lib.hid rfl
            generalize hqb : quoB T a t = qb at HQ
            have HQB := Lib.hid hqb
            clear hqb HQv HR
            cases qb with
            | false =>
              go_wp2_with (go_at_call 34; refine HQ.out.mono ?_; rintro e w' ⟨rfl, rfl⟩)
              go_roundw
              case rel => exact ⟨i + 1, o, by omega, by go_num, rfl, rfl, Lib.hid (by rw [HBS.out]; simp only [HQB.out, Bool.false_eq_true, false_and, if_false]; exact HO1.out), HK2⟩
              case measure => simp [intOf]; omega
            | true =>
              cases o with
              | none =>
                go_wp2_with (go_at_call 34; refine HQ.out.mono ?_; rintro e w' ⟨rfl, rfl⟩)
                go_roundw
                case rel => exact ⟨i + 1, some t, by omega, by go_num, rfl, rfl, Lib.hid (by rw [HBS.out]; simp only [← HO1.out, HQB.out, true_and]; rw [if_pos (fun b h => by cases h)]), HK2⟩
                case measure => simp [intOf]; omega
              | some b =>
                have hbb : (some b : Option Int).getD 0 = b := rfl
                by_cases hbt : b < t
                · go_wp2_with (go_at_call 34; refine HQ.out.mono ?_; rintro e w' ⟨rfl, rfl⟩)
                  go_roundw
                  case rel => exact ⟨i + 1, some t, by omega, by go_num, rfl, rfl, Lib.hid (by rw [HBS.out]; simp only [← HO1.out, HQB.out, true_and]; rw [if_pos (fun b' h => by cases h; exact hbt)]), HK2⟩
                  case measure => simp [intOf]; omega
                · go_wp2_with (go_at_call 34; refine HQ.out.mono ?_; rintro e w' ⟨rfl, rfl⟩)
                  go_roundw
                  case rel => exact ⟨i + 1, some b, by omega, by go_num, rfl, rfl, Lib.hid (by rw [HBS.out]; simp only [← HO1.out, HQB.out, true_and]; rw [if_neg (fun h => by have := h b rfl; omega)]), HK2⟩
                  case measure => simp [intOf]; omega
    · have hn' : i = N := by omega
      subst hn'
      have HB2 := Lib.hid (HBd.out i)
      cases o with
      | none =>
        have E : runtilW ⟨r, n, i, len, bound, T⟩ = (0, false) := by rw [HRW.out, ← HO1.out]
        have HE := Lib.hid E
        clear E chi
        go_wp2
        go_ret2
        exact ⟨by rw [HE.out]; rfl, HK.out⟩
      | some b =>
        have E : runtilW ⟨r, n, i, len, bound, T⟩ = (b + len - 2 * bound, true) := by rw [HRW.out, ← HO1.out]
        have HE := Lib.hid E
        have hbb := HB2.out b HO1.out.symm
        clear E chi
        have hw2 := wrap_in (b + len) (by omega)
        have hw3 := wrap_in (2 * bound) (by omega)
        have hw4 := wrap_in (b + len - 2 * bound) (by omega)
        have hbb' : (some b : Option Int).getD 0 = b := rfl
        go_wp2
        go_quiet (fail)
        go_wp2
        go_ret2
        exact ⟨by rw [HE.out]; rfl, HK.out.drewN _⟩
end Go.Proofs.Ytnjafdjolfdklaa
