/- Who holds: how long. No statement of the seat is proved here. -/
import Derived.Test.YtnjafdjolfdklaaLzI
namespace Go.Proofs.Ytnjafdjolfdklaa
set_option linter.unusedVariables false
set_option linter.unusedSimpArgs false
set_option linter.unusedSectionVars false
open Go.RowKit Go.Maps
variable [Floor]
def sortedT (T : List (Option Int)) : List Int := (T.filterMap id).mergeSort leI
theorem length_sortedT (T : List (Option Int)) : (sortedT T).length = (T.filterMap id).length := List.length_mergeSort _
def untilW (H : HO) : Int × Bool :=
  if (H.T.filterMap id).length < H.N / 2 + 1 then (0, false) else ((sortedT H.T).getD ((H.T.filterMap id).length - (H.N / 2 + 1)) 0 + H.len - 2 * H.bound, true)
theorem sortedT_mem {H : HO} (h : H.Ok) {i : Nat} {x : Int} (hx : (sortedT H.T)[i]? = some x) : 0 ≤ x ∧ x ≤ 17592186044416 := by
  have h1 : x ∈ sortedT H.T := List.mem_of_getElem? hx
  have h2 : x ∈ H.T.filterMap id := (List.mergeSort_perm _ _).mem_iff.1 h1
  obtain ⟨o, ho, e⟩ := List.mem_filterMap.1 h2
  simp only [id] at e
  subst e
  obtain ⟨j, hj⟩ := List.mem_iff_getElem?.1 ho
  exact h.ts j x hj
set_option maxRecDepth 100000 in
theorem hountil_no (w : World) (g : Nat) (H : HO) (h : IsHo w g H) (hlt : (H.T.filterMap id).length < H.N / 2 + 1) :
    Calls Try.prog 12 #[.pointer (some ⟨g, 0, none⟩)] w fun e w' => e = .returned (.tuple #[.int .i64 0, .bool false]) ∧ Keep nomod w w' := by
  obtain ⟨bm, D, hb, hm, hi, _⟩ := h.lies
  have HM := Lib.hid (majority_c w H.N (by have := h.ok.n1; omega) (by have := h.ok.n7; omega))
  have c2 : w.cell? ⟨g, 2, none⟩ = some (.int .i64 H.N) := cell_at hb rfl
  have c5 : w.cell? ⟨g, 5, none⟩ = some (.map (some bm)) := cell_at hb rfl
  have hsz := hi.size
  have hcmp : (Maps.size D : Int) < (H.N : Int) / 2 + 1 := by rw [hsz]; omega
  have HMm := Lib.hid hm
  clear h hb hi hlt hsz hm
  go_enter Try.func12, Try.ntmps12
  go_wp2_with (first
    | (go_at_call 31; refine HM.out.mono ?_; rintro e w' ⟨rfl, rfl⟩)
    | (at_len; refine wpList_len_own _ rfl _ 72 rfl 3 2 Try.underlying72 _ bm _ D rfl HMm.out ?_))
  go_ret2
  exact ⟨rfl, Keep.refl _ _⟩
set_option maxRecDepth 100000 in
set_option maxHeartbeats 400000 in
theorem hountil_yes (w : World) (g : Nat) (H : HO) (h : IsHo w g H) (hge : H.N / 2 + 1 ≤ (H.T.filterMap id).length) :
    Calls Try.prog 12 #[.pointer (some ⟨g, 0, none⟩)] w fun e w' => e = .returned (.tuple #[.int .i64 ((sortedT H.T).getD ((H.T.filterMap id).length - (H.N / 2 + 1)) 0 + H.len - 2 * H.bound), .bool true]) ∧ Keep nomod w w' := by
  have hok := h.ok
  obtain ⟨bm, D, hb, hm, hi, _⟩ := h.lies
  have HM := Lib.hid (majority_c w H.N (by have := h.ok.n1; omega) (by have := h.ok.n7; omega))
  have c2 : w.cell? ⟨g, 2, none⟩ = some (.int .i64 H.N) := cell_at hb rfl
  have c5 : w.cell? ⟨g, 5, none⟩ = some (.map (some bm)) := cell_at hb rfl
  have hsz := hi.size
  have hLn := length_sortedT H.T
  have hL7 : (H.T.filterMap id).length ≤ 7 := by have := length_fm H.T; have := hok.len; have := hok.n7; omega
  obtain ⟨L, hL⟩ : ∃ L, (H.T.filterMap id).length = L := ⟨_, rfl⟩
  obtain ⟨m, hmm⟩ : ∃ m, H.N / 2 + 1 = m := ⟨_, rfl⟩
  obtain ⟨x, hx⟩ : ∃ x, (sortedT H.T)[L - m]? = some x := ⟨_, List.getElem?_eq_getElem (by rw [hLn, hL]; omega)⟩
  have hxb := sortedT_mem hok hx
  have hgx : (sortedT H.T).getD (L - m) 0 = x := by rw [List.getD_eq_getElem?_getD, hx]; rfl
  rw [hL] at hge hLn hsz hL7
  rw [hmm] at hge
  rw [hL, hmm, hgx]
  have hme : (H.N : Int) / 2 + 1 = (m : Int) := by omega
  rw [hme] at HM
  have hm1 : 1 ≤ m := by omega
  have hcmp : (m : Int) ≤ (Maps.size D : Int) := by omega
  have hb1 := hok.b1
  have hb2 := hok.b2
  have hl1 := hok.l1
  have hl2 := hok.l2
  have HMm := Lib.hid hm
  have HB := Lib.hid hb
  have HI := Lib.hid hi
  have HX := Lib.hid hx
  have HSz := Lib.hid hsz
  have hs7 : Maps.size D ≤ 1000000 := by omega
  have HS7 := Lib.hid hs7
  have HLn := Lib.hid hLn
  have HLe := Lib.hid hL
  clear h hb hi hsz hm hmm hgx hx hLn hL hme hs7 hok
  go_enter Try.func12, Try.ntmps12
  go_wp2_with (first
    | (go_at_call 31; refine HM.out.mono ?_; rintro e w' ⟨rfl, rfl⟩)
    | (at_len; refine wpList_len_own _ rfl _ 72 rfl 3 2 Try.underlying72 _ bm _ D rfl HMm.out ?_))
  refine (values_c (some bm) w).mono ?_
  rintro e w1 ⟨rfl, rfl⟩
  have hcs := sortedV_c w.heap.size bm (Maps.size D) D (w.alloc (.cells #[.map (some bm)] 72)) (by simp) (by simp) (HMm.out.alloc _) HS7.out
  go_wp2_with fail
  refine hcs.mono ?_
  rintro e w2 ⟨v, ss, rfl, hV, hrow, hbl⟩
  have hk2 : Keep nomod w w2 := ((Keep.refl nomod w).alloc (.cells #[.map (some bm)] 72)).trans (Keep.below hbl)
  have hp := vals_perm HI.out hV
  have hss : ss.mergeSort (fun x y => decide (x ≤ y)) = sortedT H.T := mergeSort_of_perm_i hp
  have hsl : ss.length = L := by rw [hp.length_eq]; exact HLe.out
  rw [hss, hsl] at hrow
  obtain ⟨gb, cap, cs, rfl, _, hgb, hr1, hr2, hr3, hr4⟩ := hrow.2.resolve_left (fun e => by have := e.2; omega)
  have hcell : w2.cell? ⟨gb, L - m, none⟩ = some (.int .i64 x) := by
    refine cell_at hgb ?_
    have h1 : ((sortedT H.T).map encZ)[L - m]? = some (.int .i64 x) := by rw [List.getElem?_map, HX.out]; rfl
    rw [← hr4, List.getElem?_take] at h1
    split at h1
    · simpa using h1
    · cases h1
  have hb3 := hk2.block _ _ HB.out (fun e => e)
  have c3 : w2.cell? ⟨g, 3, none⟩ = some (.int .i64 H.len) := cell_at hb3 rfl
  have c4 : w2.cell? ⟨g, 4, none⟩ = some (.int .i64 H.bound) := cell_at hb3 rfl
  have HK2 := Lib.hid hk2
  clear hrow hr1 hr2 hr3 hr4 hgb hb3 hp hss hsl hV hbl hk2 c2 c5 hcs hcmp
  have hi0 : (0 : Int) ≤ (L : Int) - (m : Int) := by omega
  have hi1 : (L : Int) - (m : Int) < (L : Int) := by omega
  have hw1 := wrap_in ((L : Int) - (m : Int)) (by omega)
  have hw2 := wrap_in (x + H.len) (by omega)
  have hw3 := wrap_in (2 * H.bound) (by omega)
  have hw4 := wrap_in (x + H.len - 2 * H.bound) (by omega)
  have hti : ((L : Int) - (m : Int)).toNat = L - m := by omega
  go_wp2
  go_quiet (fail)
  go_wp2
  go_ret2
  exact ⟨rfl, HK2.out.drewN _⟩
theorem hountil_c (w : World) (g : Nat) (H : HO) (h : IsHo w g H) :
    Calls Try.prog 12 #[.pointer (some ⟨g, 0, none⟩)] w fun e w' => e = .returned (.tuple #[.int .i64 (untilW H).1, .bool (untilW H).2]) ∧ Keep nomod w w' := by
  unfold untilW
  by_cases hlt : (H.T.filterMap id).length < H.N / 2 + 1
  · rw [if_pos hlt]; exact hountil_no w g H h hlt
  · rw [if_neg hlt]; exact hountil_yes w g H h (by omega)
def validW (H : HO) (now : Int) : Bool := (untilW H).2 && decide (now < (untilW H).1)
set_option maxRecDepth 100000 in
theorem valid_c (w : World) (g : Nat) (H : HO) (h : IsHo w g H) (now : Int) :
    Calls Try.prog 14 #[.pointer (some ⟨g, 0, none⟩), .int .i64 now] w fun e w' => e = .returned (.bool (validW H now)) ∧ Keep nomod w w' := by
  have HU := Lib.hid (hountil_c w g H h)
  have HV : Hid (validW H now = ((untilW H).2 && decide (now < (untilW H).1))) := Lib.hid rfl
  generalize (untilW H).2 = is at *
  generalize (untilW H).1 = u at *
  clear h
  cases is with
  | false =>
    go_enter Try.func14, Try.ntmps14
    go_wp2_with (go_at_call 12; refine HU.out.mono ?_; rintro e w1 ⟨rfl, hk1⟩)
    go_ret
    exact ⟨by rw [HV.out]; rfl, hk1⟩
  | true =>
    go_enter Try.func14, Try.ntmps14
    go_wp2_with (go_at_call 12; refine HU.out.mono ?_; rintro e w1 ⟨rfl, hk1⟩)
    go_ret
    exact ⟨by rw [HV.out]; rfl, hk1⟩
end Go.Proofs.Ytnjafdjolfdklaa
