/- WalReads, walked. -/
import Derived.Test.YtimfgeklnlnniaaSame
namespace Go.Proofs.Ytimfgeklnlnniaa
set_option linter.unusedVariables false
set_option linter.unusedSimpArgs false
set_option linter.unusedSectionVars false
open Go.RowKit
/-- how much is played -/
def heft (l : List Bs) : Nat := (l.map fun x => 8 + x.length).sum
theorem heft_take {l : List Bs} {k : Nat} {x : Bs} (h : l[k]? = some x) : heft (l.take (k + 1)) = heft (l.take k) + 8 + x.length := by
  have hk := (List.getElem?_eq_some_iff.1 h)
  obtain ⟨hk, rfl⟩ := hk
  rw [List.take_succ_eq_append_getElem hk]
  unfold heft
  rw [List.map_append, List.sum_append]
  simp only [List.map_cons, List.map_nil, List.sum_cons, List.sum_nil]
  omega
theorem heft_ge (l : List Bs) : ∀ x ∈ l, 8 + x.length ≤ heft l := by
  intro x hx
  induction l with
  | nil => cases hx
  | cons y l ih =>
    have e : heft (y :: l) = 8 + y.length + heft l := by simp [heft]
    rcases List.mem_cons.1 hx with rfl | hx
    · omega
    · have := ih hx; omega
theorem heft_len (l : List Bs) : 8 * l.length ≤ heft l := by
  induction l with
  | nil => exact Nat.le_refl _
  | cons y l ih =>
    have e : heft (y :: l) = 8 + y.length + heft l := by simp [heft]
    rw [List.length_cons]; omega
def cD : DK := (clearW (newDK 8) 0 8).1
theorem c1 : (clearW (newDK 8) 0 8).2 = 0 := by kernel_rfl
theorem cD_up : cD.fuse = none := by kernel_rfl
theorem cD_S : cD.S.length = 8 := by kernel_rfl
theorem cD_L : cD.L.length = 0 := by kernel_rfl
theorem cD_view : ((List.range 8).all fun j => cD.view j == laidB [] j) = true := by decide +kernel
theorem cD_runs : Runs cD 0 8 (framesOf []) :=
  ⟨cD_up, by rw [cD_S]; omega, fun j hj => by
    have := List.all_eq_true.1 cD_view j (List.mem_range.2 hj)
    rw [Nat.zero_add]
    exact eq_of_beq this⟩
def lg8 (b : Nat) (s : Bs) : LG := ⟨b, 0, 8, s, false⟩
theorem app8 {D : DK} {s : Bs} (h : Runs D 0 8 s) (b : Nat) (t : Bs) (ht : t.length ≤ 65536) (hfit : s.length + (t.length + 8) ≤ 2040) :
    ∃ D', appendW D (lg8 b s) 8 t = (D', lg8 b (s ++ frameOf t), 0) ∧ Runs D' 0 8 (s ++ frameOf t) ∧ D'.L.length ≤ D.L.length + 8 := by
  letI : Floor := ⟨0⟩
  refine ⟨_, append_runs (frm := 0) (n := 8) h b t ht hfit, h.turn, ?_⟩
  have := (diffs_lt (laidB s) (laidB (s ++ frameOf t)) 8).2
  simp only [List.length_append, shN, List.length_map]
  omega
theorem app8_full {D : DK} {s : Bs} (b : Nat) (t : Bs) (ht : t.length ≤ 65536) (hfit : 2040 < s.length + (t.length + 8)) : appendW D (lg8 b s) 8 t = (D, lg8 b s, 6) := by
  letI : Floor := ⟨0⟩
  exact append_full_runs (frm := 0) (n := 8) b t ht hfit
theorem open8 {D : DK} {l : List Bs} (h : Runs D 0 8 (framesOf l)) (hl : ∀ t ∈ l, t.length ≤ 65536) (hfit : (framesOf l).length ≤ 2040) : openW D 0 8 = (D, some (framesOf l, l), 0) := by
  letI : Floor := ⟨0⟩
  exact open_runs (frm := 0) (n := 8) h (by decide) hl hfit
theorem drewN_log {W : World} {n g : Nat} {G : LG} (h : IsLog W g G) : IsLog (W.drewN n) g G := h
set_option maxRecDepth 100000 in
set_option maxHeartbeats 1000000 in
theorem walReads_c (w : World) (v : Value) (ss : List Bs) (hv : StrsIn w v ss) (hl1 : ss.length ≤ 1000000000000000) (hl2 : ∀ x ∈ ss, x.length ≤ 1000000000000000) :
    Calls Try.prog 4 #[v] w fun e w' => e = .returned (.bool true) ∧ Keep nomod w w' := by
  letI : Floor := ⟨w.heap.size⟩
  have hfl0 : Floor.b ≤ w.heap.size := Nat.le_refl _
  have HV := Lib.hid hv
  have H2 := Lib.hid hl2
  obtain ⟨q, cap, rfl, hc⟩ := hv
  have HC := Lib.hid hc
  obtain ⟨n, hn⟩ : ∃ n, ss.length = n := ⟨_, rfl⟩
  rw [hn] at hl1
  rw [hn]
  have HN := Lib.hid hn
  have Ha := Lib.hid (fun W => alive_c W)
  clear hc hn hl2
  go_enter Try.func4, Try.ntmps4
  go_wp2
  go_loop [3, 4] (fun h i => ∃ k m : Nat, k ≤ n ∧ i = .int .i64 (k : Int) ∧ h = .int .i64 (m : Int) ∧ m ≤ 1000000000100000 ∧ Hid (m = heft (ss.take k))) (fun _ i => n - (intOf i).toNat)
  case atStart => exact ⟨0, 0, Nat.zero_le _, rfl, rfl, by omega, Lib.hid rfl⟩
  case round =>
    obtain ⟨k, m, hk, rfl, rfl, hm, HM⟩ := hrel
    by_cases hbig : 8192 < m
    · by_cases hlt : k < n
      all_goals
        go_wp2_with (go_at_call 6; refine (Ha.out _).mono ?_; rintro e w2 ⟨rfl, hk2⟩)
        go_ret
        exact ⟨rfl, hk2⟩
    · by_cases hlt : k < n
      · obtain ⟨x, hx⟩ : ∃ x, ss[k]? = some x := ⟨_, List.getElem?_eq_getElem (by rw [HN.out]; exact hlt)⟩
        obtain ⟨b1, o1, rfl, c1⟩ := HC.out k x hx
        have hxl := H2.out x (List.mem_of_getElem? hx)
        have hh := heft_take hx
        rw [← HM.out] at hh
        have HH := Lib.hid hh
        have hsz := size_mk x
        clear HC HV hh hx HM
        go_wp2
        go_round
        case rel => exact ⟨k + 1, m + 8 + x.length, by omega, by go_num, by go_num, by omega, Lib.hid HH.out.symm⟩
        case measure => simp [intOf]; omega
      · have hkn : k = n := by omega
        subst hkn
        have hheft : heft ss ≤ 8192 := by have := HM.out; rw [List.take_of_length_le (by rw [HN.out]; exact Nat.le_refl _)] at this; omega
        have HX := Lib.hid (fun x (hx : x ∈ ss) => Nat.le_trans (heft_ge ss x hx) hheft)
        have hk1024 : k ≤ 1024 := by have := heft_len ss; rw [HN.out] at this; omega
        clear hheft hl1 hk H2
        go_wp2_with fail
        refine (new_yes w 8 (by decide) (by decide) hfl0).mono ?_
        rintro e w1 ⟨rfl, hd1, hk1⟩
        have HK1 := Lib.hid (hk1.of_nomod (M := mods logT))
        generalize w.heap.size + 1 = b at *
        have H2 := Lib.hid (clear_disk w1 b _ hd1 0 8 (by decide) (by decide))
        clear hd1 hk1
        rw [c1] at H2
        go_wp2_with fail
        refine H2.out.mono ?_
        rintro e w2 ⟨rfl, hd2, hk2⟩
        have HK2 := Lib.hid (HK1.out.trans (hk2.mods_mono (fun x hx => List.mem_cons_of_mem _ hx)))
        have H3 := Lib.hid (open_disk w2 b cD hd2 0 8 (by rw [cD_S]; decide) (by rw [cD_L]; decide))
        rw [open8 (l := []) cD_runs (fun _ h => (by cases h)) (by decide)] at H3
        clear hd2 hk2 H2 HK1
        go_wp2_with fail
        refine H3.out.mono ?_
        rintro e w3 ⟨lv, rv, rfl, hd3, hk3, g, rfl, hg, hl3, hr3⟩
        have HK3 := Lib.hid (HK2.out.trans (hk3.mods_mono (fun x hx => List.mem_cons_of_mem _ hx)))
        have HD3 := Lib.hid hd3
        have HL3 : Hid (IsLog w3 g (lg8 b (framesOf []))) := Lib.hid hl3
        have hfg : Floor.b ≤ g := Nat.le_trans HK2.out.size hg
        have HFG := Lib.hid hfg
        clear hd3 hk3 hl3 hr3 H3 HK2 hg hfg
        dsimp only
        go_wp2
        go_loopw [10, 11] (fun av iv W => ∃ (i c : Nat) (qa : Option Addr) (A : List Bs) (D : DK) (s : Bs), i ≤ k ∧ iv = .int .i64 (i : Int) ∧ av = .slice qa A.length c ∧ A.length ≤ i ∧ s.length ≤ 2040 ∧ Hid (s = framesOf A) ∧ Hid (Runs D 0 8 s) ∧ Hid (IsDisk W b D) ∧ Hid (IsLog W g (lg8 b s)) ∧
            Hid (W.ownsRow w.heap.size 9 1 av A.length (cellsS A)) ∧ Hid (Keep (mods logT) w W) ∧ Hid (∀ t ∈ A, t.length ≤ 65536) ∧ Hid (D.L.length ≤ 8 * i)) (fun _ iv _ => k - (intOf iv).toNat)
        case atStart => exact ⟨0, 0, none, [], cD, framesOf [], Nat.zero_le _, rfl, rfl, Nat.le_refl _, Nat.zero_le _, Lib.hid rfl, Lib.hid cD_runs, HD3, HL3, Lib.hid (World.ownsRow_nil _ _ _ _), HK3, Lib.hid (fun _ h => (by cases h)), Lib.hid (by rw [cD_L]; exact Nat.zero_le _)⟩
        case round =>
          obtain ⟨i, c, qa, A, D, s, hi, rfl, rfl, hAi, hs, HS, HR, HD, HL, HO, HK, HA, HLl⟩ := hrel
          clear HK3 HD3 HL3
          by_cases hlt : i < k
          · obtain ⟨x, hx⟩ : ∃ x, ss[i]? = some x := ⟨_, List.getElem?_eq_getElem (by rw [HN.out]; exact hlt)⟩
            obtain ⟨b1, o1, rfl, c1⟩ := HC.out i x hx
            have hxl : 8 + x.length ≤ 8192 := HX.out x (List.mem_of_getElem? hx)
            have hcell := fun W (hk : Keep nomod w W) => cell_keep hk c1
            have HCE := Lib.hid hcell
            have hLL := HLl.out
            clear hcell c1 hx HC HV
            have Hlen := Lib.hid (fun W h => len_log W g (lg8 b s) h)
            have Hroom := Lib.hid (fun W h => room_drew W g (lg8 b s) h (by show (0:Int) ≤ 8; decide) (by show (8:Int) ≤ 1000000; decide) (by show s.length ≤ _; omega))
            have ci := HCE.out wr HK.out.floor
            by_cases hfit : s.length + (x.length + 8) ≤ 2040
            · obtain ⟨D', hap, hR', hL'⟩ := app8 HR.out b x (by omega) hfit
              have Happ := Lib.hid (append_log wr g (lg8 b s) D HL.out HD.out x 8 rfl (by decide) (by show s.length ≤ _; omega) (by omega) (by show (0:Int) ≤ 0 ∧ (0:Int) ≤ 1000000; decide) (by omega) HFG.out)
              rw [hap] at Happ
              have e1 : (s ++ frameOf x).length = s.length + x.length + 8 := by rw [List.length_append, length_frameOf]; omega
              have hfr : framesOf (A ++ [x]) = s ++ frameOf x := by rw [framesOf_snoc, ← HS.out]
              have Hlen2 := Lib.hid (fun W h => len_log W g (lg8 b (s ++ frameOf x)) h)
              have Hroom2 := Lib.hid (fun W h => room_drew W g (lg8 b (s ++ frameOf x)) h (by show (0:Int) ≤ 8; decide) (by show (8:Int) ≤ 1000000; decide) (by show (s ++ frameOf x).length ≤ _; omega))
              have FR := Lib.hid hfr
              have HR' := Lib.hid hR'
              clear hap hfr hR'
              simp only [show (lg8 b s).s = s from rfl, show (lg8 b s).n = 8 from rfl] at Hlen
              simp only [show (lg8 b (s ++ frameOf x)).s = s ++ frameOf x from rfl, show (lg8 b (s ++ frameOf x)).n = 8 from rfl, e1] at Hlen2 Hroom2
              generalize hs2 : s ++ frameOf x = s2 at *
              generalize hsn : s.length = sl at *
              have E1 := Lib.hid e1
              have Hs2 := Lib.hid hs2
              have Hsn := Lib.hid hsn
              clear hsn e1 hs2 Hroom
              go_wp2_with fail
              refine (Hlen.out _ HL.out).mono ?_
              rintro e w4 ⟨rfl, rfl⟩
              go_wp2_with fail
              refine Happ.out.mono ?_
              rintro e w4 ⟨rfl, hd4, hl4, hk4⟩
              obtain ⟨R, hRR⟩ : ∃ R : Int, (8 : Int) * 255 - ((sl + x.length + 8 : Nat) : Int) = R := ⟨_, rfl⟩
              rw [hRR] at Hroom2
              rw [show ((sl + x.length + 8 : Nat) : Int) = (sl : Int) + (x.length : Int) + 8 by omega] at Hlen2
              have hw2 : IntKind.i64.wrap ((sl : Int) + (x.length : Int) + 8 + R) = 2040 := by rw [wrap_in _ (by omega)]; omega
              clear hRR
              have ci4 := HCE.out w4 (HK.out.trans hk4).floor
              have HK4 := Lib.hid (HK.out.trans hk4)
              have HO4 := Lib.hid (ownsRow_mods HO.out hk4 (by decide))
              have HD4 := Lib.hid hd4
              have HL4 := Lib.hid hl4
              clear ci HO hk4 hd4 hl4 HD HL
              have hi0 : (0 : Int) ≤ (i : Int) := by omega
              have hi1 : (i : Int) < (k : Int) := by omega
              go_upto_region 21 with (fail)
              apply wp_region_lit
              refine ls_same (.slice qa A.length c) rfl (by go_simp) ?_
              simp only [Act.put, List.setIfInBounds_toArray, List.set_cons_succ, List.set_cons_zero]
              refine ls_same (.slice (some ⟨b1, o1, none⟩) k cap) rfl (by go_simp) ?_
              simp only [Act.put, List.setIfInBounds_toArray, List.set_cons_succ, List.set_cons_zero]
              refine ls_same (.int .i64 (i : Int)) rfl (by go_simp) ?_
              simp only [Act.put, List.setIfInBounds_toArray, List.set_cons_succ, List.set_cons_zero]
              refine ls_same (.pointer (some ⟨b1, o1 + i, none⟩)) rfl (by go_simp) ?_
              simp only [Act.put, List.setIfInBounds_toArray, List.set_cons_succ, List.set_cons_zero]
              refine ls_same (.string ⟨x.toArray⟩) rfl (by go_simp) ?_
              simp only [Act.put, List.setIfInBounds_toArray, List.set_cons_succ, List.set_cons_zero]
              refine ls_val rfl (exec_buildSlice1 rfl rfl (run_slice_str _ _)) ?_
              simp only [Act.put, List.setIfInBounds_toArray, List.set_cons_succ, List.set_cons_zero]
              have o5 := World.ownsRow.alloc HO4.out (.cells #[.string ⟨x.toArray⟩] 9)
              have g5 := heap_new w4 (.cells #[.string ⟨x.toArray⟩] 9)
              have k5 := (HK4.out).alloc (.cells #[.string ⟨x.toArray⟩] 9)
              have d5 : IsDisk (w4.alloc (.cells #[.string ⟨x.toArray⟩] 9)) b D' := HD4.out.keepM ((Keep.refl nomod w4).alloc _) (fun _ _ _ _ _ e => e)
              have l5 : IsLog (w4.alloc (.cells #[.string ⟨x.toArray⟩] 9)) g (lg8 b s2) := heap_old HL4.out _
              generalize w4.alloc (.cells #[.string ⟨x.toArray⟩] 9) = w5 at *
              refine ls_act rfl (fun K hK => append_str rfl _ _ _ rfl w.heap.size (.slice qa A.length c) A rfl o5 _ x rfl g5 (by omega) k5.size ?_)
              intro g6 cap6 w6 o6 hg6 hgg hgl
              refine hK _ _ ?_
              clear hK
              simp only [Act.put, List.setIfInBounds_toArray, List.set_cons_succ, List.set_cons_zero]
              have k6 : Keep (mods logT) w w6 := k5.grown hg6 (fun k o e hk => absurd (heap_lt hk) (by have := (o5.lt k e).1; omega))
              have l6 : IsLog w6 g (lg8 b s2) := grown_cells o5 hg6 l5 (by decide)
              have d6 : IsDisk w6 b D' := by
                obtain ⟨bs, lv, lf, hb', hf, hs', hl', hbb⟩ := d5.lies
                exact ⟨d5.ok, d5.fl, bs, lv, lf, grown_cells o5 hg6 hb' (by decide), hf, grown_cells o5 hg6 hs' (by decide), ownsRow_far hl' (fun g' cs' _ hh => grown_cells o5 hg6 hh (by decide)), hbb⟩
              have ci6 := HCE.out w6 k6.floor
              have K6 := Lib.hid k6
              have L6 := Lib.hid l6
              have D6 := Lib.hid d6
              have e6 : (A ++ [x]).length = A.length + 1 := by simp
              rw [e6] at o6
              have O6 := Lib.hid o6
              have hA6 := Lib.hid (fun t (ht : t ∈ A ++ [x]) => (List.mem_append.1 ht).elim (fun h => HA.out t h) (fun h => by have := List.mem_singleton.1 h; subst this; omega : t ∈ [x] → t.length ≤ 65536))
              clear k6 l6 d6 o6 hg6 hgg d5 l5 k5 g5 o5 HK4 HD4 HL4 HO4 ci4 e6
              go_wp2
              go_quiet (first | (go_at_call 9; exact Calls.quiet_of_same ((Hlen2.out _ (drewN_log L6.out)).mono fun _ _ h => ⟨h.1, h.2.symm⟩)) | (go_at_call 10; exact Calls.quiet_of (Hroom2.out _ (drewN_log L6.out))))
              go_wp2
              go_roundw
              case rel => exact ⟨i + 1, cap6, some ⟨g6, 0, none⟩, A ++ [x], D', s2, by omega, by go_num, by rw [List.length_append]; rfl, by simp; omega, by rw [E1.out]; omega, Lib.hid FR.out.symm, HR', Lib.hid (D6.out.keepM ((Keep.refl nomod w6).drewN _) (fun _ _ _ _ _ e => e)), Lib.hid (drewN_log L6.out), Lib.hid (by rw [List.length_append]; exact ownsRow_mods O6.out ((Keep.refl (mods []) _).drewN _) (by decide)), Lib.hid (K6.out.drewN _), hA6, Lib.hid (by omega)⟩
              case measure => simp [intOf]; omega
            · have hap := app8_full (D := D) (s := s) b x (by omega) (by omega)
              have Happ := Lib.hid (append_log wr g (lg8 b s) D HL.out HD.out x 8 rfl (by decide) (by show s.length ≤ _; omega) (by omega) (by show (0:Int) ≤ 0 ∧ (0:Int) ≤ 1000000; decide) (by omega) HFG.out)
              rw [hap] at Happ
              have hsl : (lg8 b s).s.length = s.length := rfl
              clear hap
              simp only [show (lg8 b s).s = s from rfl, show (lg8 b s).n = 8 from rfl] at Hlen Hroom
              generalize hsn : s.length = sl at *
              have Hsn := Lib.hid hsn
              clear hsl hsn
              go_wp2_with fail
              refine (Hlen.out _ HL.out).mono ?_
              rintro e w4 ⟨rfl, rfl⟩
              go_wp2_with fail
              refine Happ.out.mono ?_
              rintro e w4 ⟨rfl, hd4, hl4, hk4⟩
              obtain ⟨R, hRR⟩ : ∃ R : Int, (8 : Int) * 255 - (sl : Int) = R := ⟨_, rfl⟩
              rw [hRR] at Hroom
              have hleq : decide ((x.length : Int) + 8 ≤ R) = false := decide_eq_false (by omega)
              have hw1 := wrap_in ((x.length : Int) + 8) (by omega)
              have hw2 : IntKind.i64.wrap ((sl : Int) + R) = 2040 := by rw [wrap_in _ (by omega)]; omega
              clear hRR
              have ci := HCE.out w4 (HK.out.trans hk4).floor
              have hi0 : (0 : Int) ≤ (i : Int) := by omega
              have hi1 : (i : Int) < (k : Int) := by omega
              go_wp2
              go_quiet (first | (go_at_call 9; exact Calls.quiet_of_same ((Hlen.out _ (drewN_log hl4)).mono fun _ _ h => ⟨h.1, h.2.symm⟩)) | (go_at_call 10; exact Calls.quiet_of (Hroom.out _ (drewN_log hl4))))
              go_wp2
              go_roundw
              case rel => exact ⟨i + 1, c, qa, A, D, s, by omega, by go_num, rfl, by omega, by rw [Hsn.out]; exact hs, HS, HR, Lib.hid (hd4.keepM ((Keep.refl nomod w4).drewN _) (fun _ _ _ _ _ e => e)), Lib.hid (drewN_log hl4), Lib.hid (ownsRow_mods HO.out (hk4.drewN _) (by decide)), Lib.hid ((HK.out.trans hk4).drewN _), HA, Lib.hid (by omega)⟩
              case measure => simp [intOf]; omega
          · have hik : i = k := by omega
            subst hik
            have hup := HR.out.up
            have Hs := Lib.hid (sync_disk wr b D HD.out (by have := HLl.out; omega))
            rw [down_up hup, show mayB D = 0 by unfold mayB; rw [down_up hup]; rfl] at Hs
            have HR2 := Lib.hid HR.out.sync
            have HO1 := Lib.hid (StrsIn.own HO.out)
            clear HLl HR hup HC HV HX
            go_wp2_with fail
            refine Hs.out.mono ?_
            rintro e w5 ⟨rfl, hd5, hk5⟩
            have HK5 := Lib.hid (HK.out.trans (hk5.mods_mono (fun x hx => List.mem_cons_of_mem _ hx)))
            have HL5 := Lib.hid (HL.out.keep hk5 (by simp [mods, tagOf]) : IsLog w5 g (lg8 b s))
            have HO5 := Lib.hid (ownsRow_mods HO.out hk5 (by decide))
            have HD5 : Hid (IsDisk w5 b D.sync) := Lib.hid hd5
            clear hd5 hk5 HK HL HO HD Hs HO1
            have hOp := Lib.hid (fun W h => open_disk W b D.sync h 0 8 (by have := h.ok.le; omega) (by show (0 : Nat) ≤ 900000; omega))
            rw [open8 (by rw [← HS.out]; exact HR2.out) HA.out (by rw [← HS.out]; exact hs), ← HS.out] at hOp
            have Hlen := Lib.hid (fun W g2 h => len_log W g2 (lg8 b s) h)
            simp only [show (lg8 b s).s = s from rfl] at Hlen
            go_wp2
            go_loopw [14] (fun jv W => ∃ j : Nat, j ≤ 2 ∧ jv = .int .i64 (j : Int) ∧ Hid (IsDisk W b D.sync) ∧ Hid (IsLog W g (lg8 b s)) ∧ Hid (W.ownsRow w.heap.size 9 1 (.slice qa A.length c) A.length (cellsS A)) ∧ Hid (Keep (mods logT) w W)) (fun jv _ => 2 - (intOf jv).toNat)
            case atStart => exact ⟨0, Nat.zero_le _, rfl, HD5, HL5, HO5, HK5⟩
            case round =>
              obtain ⟨j, hj, rfl, HD, HL, HO, HK⟩ := hrel
              clear HD5 HL5 HO5 HK5
              by_cases hlt2 : j < 2
              · go_wp2_with fail
                refine (hOp.out _ HD.out).mono ?_
                rintro e w6 ⟨lv, rv, rfl, hd6, hk6, g2, rfl, hg2, hl6, hr6⟩
                have hsy := Lib.hid (same_yes w6 rv (.slice qa A.length c) A (StrsIn.own hr6) (StrsIn.own (ownsRow_mods HO.out hk6 (by decide))) (by omega))
                have HK6 := Lib.hid (HK.out.trans (hk6.mods_mono (fun x hx => List.mem_cons_of_mem _ hx)))
                have HL6 := Lib.hid (HL.out.keep hk6 (by simp [mods, tagOf]) : IsLog w6 g (lg8 b s))
                have HL62 : Hid (IsLog w6 g2 (lg8 b s)) := Lib.hid hl6
                have HO6 := Lib.hid (ownsRow_mods HO.out hk6 (by decide))
                have HD6 := Lib.hid hd6
                clear hd6 hk6 HK HL HO HD hl6 hr6
                dsimp only
                go_wp2_with fail
                refine hsy.out.mono ?_
                rintro e w7 ⟨rfl, nr, rfl⟩
                go_wp2_with fail
                refine (Hlen.out _ _ (drewN_log HL62.out)).mono ?_
                rintro e w7 ⟨rfl, rfl⟩
                go_wp2_with fail
                refine (Hlen.out _ _ (drewN_log HL6.out)).mono ?_
                rintro e w7 ⟨rfl, rfl⟩
                go_wp2
                go_roundw
                case rel => exact ⟨j + 1, by omega, by go_num, Lib.hid (HD6.out.keepM ((Keep.refl nomod w6).drewN _) (fun _ _ _ _ _ e => e)), Lib.hid (drewN_log HL6.out), Lib.hid (ownsRow_mods HO6.out ((Keep.refl (mods []) _).drewN _) (by decide)), Lib.hid (HK6.out.drewN _)⟩
                case measure => simp [intOf]; omega
              · have HF := HK.out.floor
                go_wp2_with (go_at_call 6; refine (Ha.out _).mono ?_; rintro e w2 ⟨rfl, hk2⟩)
                go_ret
                exact ⟨rfl, HF.trans hk2⟩
end Go.Proofs.Ytimfgeklnlnniaa
