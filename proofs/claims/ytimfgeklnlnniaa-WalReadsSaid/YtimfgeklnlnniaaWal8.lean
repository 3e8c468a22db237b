/- The log, part 8: Open, where the blocks are read. -/
import Derived.Test.YtimfgeklnlnniaaWal7
namespace Go.Proofs.Ytimfgeklnlnniaa
set_option linter.unusedVariables false
set_option linter.unusedSimpArgs false
open Go.RowKit Go.Shelf
set_option linter.unusedSectionVars false
variable [Floor]
attribute [local go_sem] ba_append
theorem ownsRow_base {w : World} {base base' : Nat} {e : TypeId} {size : Nat} {v : Value} {n : Nat} {xs : List Value} (h : w.ownsRow base e size v n xs) (hb : base' ≤ base) : w.ownsRow base' e size v n xs := by
  obtain ⟨h1, h2⟩ := h
  refine ⟨h1, h2.imp id ?_⟩
  rintro ⟨g, cap, cur, a, b, c⟩
  exact ⟨g, cap, cur, a, Nat.le_trans hb b, c⟩
theorem finK_L (p : DK × Int) : (finK p).1.L.length ≤ p.1.L.length := by
  unfold finK
  split
  · exact Nat.le_refl _
  · split
    · exact Nat.le_refl _
    · exact Nat.zero_le _
theorem mendW_L (D : DK) (frm : Int) (l : List (Nat × Bs)) : (mendW D frm l).1.L.length ≤ D.L.length + l.length := by
  unfold mendW
  split
  · exact Nat.le_add_right _ _
  · have h1 := finK_L (writesK D (shiftL frm l))
    have h2 := (writesK_L (shiftL frm l) D).2
    rw [show (shiftL frm l).length = l.length by simp [shiftL]] at h2
    omega
/-- what the two calls of mend lean on -/
def openI (bl g cap : Nat) (cs : Array Value) (l : List Bs) (bs : Nat) (st : Bs) (W : World) : Prop :=
  StrsAt W bl g cap cs l ∧ W.heap[bs + 1]? = some (.cells #[.func (.func 51) #[] #[.pointer (some ⟨bs, 0, none⟩)]] 64 (0, 0)) ∧ W.heap[bs]? = some (.cells #[.string ⟨st.toArray⟩] 9 (0, 0))
theorem openI_keep {bl g cap bs m : Nat} {cs : Array Value} {l : List Bs} {st : Bs} {W W' : World} (h1 : bl < m) (h2 : g < m) (h3 : bs + 1 < m) (h : openI bl g cap cs l bs st W) (hk : Keep (fun k o => mods diskT k o ∨ m ≤ k) W W') : openI bl g cap cs l bs st W' := by
  obtain ⟨ha, hb, hc⟩ := h
  refine ⟨ha.keep hk (fun cs fr e => ?_) (fun cs fr e => ?_), hk.block _ _ hb (fun e => ?_), hk.block _ _ hc (fun e => ?_)⟩
  all_goals
    rcases e with e | e
    · simp [mods, tagOf] at e
    · omega
/-- what Open hands back -/
def openP (w : World) (b : Nat) (frm : Int) (m : Nat) (R : DK × Option (Bs × List Bs) × Int) (e : Ending) (w' : World) : Prop :=
  ∃ lv rv, e = .returned (.tuple #[lv, rv, .int .i64 R.2.2]) ∧ IsDisk w' b R.1 ∧ Keep (mods diskT) w w' ∧
    match R.2.1 with
    | none => lv = .pointer none ∧ rv = .slice none 0 0
    | some (s, recs) => ∃ g, lv = .pointer (some ⟨g, 0, none⟩) ∧ w.heap.size ≤ g ∧ IsLog w' g ⟨b, frm, m, s, false⟩ ∧ w'.ownsRow w.heap.size 9 1 rv recs.length (cellsS recs)
set_option maxRecDepth 100000 in
set_option maxHeartbeats 1000000 in
theorem open_up (w : World) (b : Nat) (D : DK) (h : IsDisk w b D) (frm : Int) (m : Nat) (hS : D.S.length ≤ 1000000) (hL : D.L.length ≤ 900000) (hm : mayW D.S.length frm m = 0) (hd : D.down = false) :
    Calls Try.prog 7 #[.pointer (some ⟨b, 0, none⟩), .int .i64 frm, .int .i64 m] w fun e w' => openP w b frm m (openU D frm m) e w' := by
  obtain ⟨h1, h2, h3⟩ := mayW_zero hm
  have Hm := Lib.hid (wmay_disk w b D h frm m hS)
  rw [hm] at Hm
  have hOk := Lib.hid h.ok
  have h256 := h.ok.le
  have HD := Lib.hid h
  have HDn := Lib.hid hd
  clear h hm hd
  go_enter Try.func7, Try.ntmps7
  go_wp2_with (go_at_call 23; refine Hm.out.mono ?_; rintro e w' ⟨rfl, rfl⟩)
  go_loopw [11, 12, 33] (fun sv ev i W => ∃ (k : Nat) (v : Value), k ≤ m ∧ i = .int .i64 (k : Int) ∧ sv = .string ⟨(streamK (blocksD D frm k)).1.toArray⟩ ∧ ev = .bool (streamK (blocksD D frm k)).2 ∧
    Hid (IsDisk W b D) ∧ Hid (Keep nomod w W) ∧ Hid (W.heap[w.heap.size]? = some (.cells #[v] 24 (0, 0))) ∧ Hid (W.ownsRow w.heap.size 9 1 v (blocksD D frm k).length (cellsS (blocksD D frm k)))) (fun _ _ i _ => m - (intOf i).toNat)
  case atStart => exact ⟨0, .slice none 0 0, Nat.zero_le _, rfl, rfl, rfl, Lib.hid (HD.out.keep (l := []) (((Keep.refl _ _).alloc _)) (by simp) (by simp) (by simp)), Lib.hid ((Keep.refl _ _).alloc _), Lib.hid (heap_new _ _), Lib.hid (World.ownsRow_nil _ _ _ _)⟩
  case round =>
    obtain ⟨k, v, hk, rfl, rfl, rfl, HD2, HK, HB, HR⟩ := hrel
    by_cases hlt : k < m
    · have hrd := read_up hOk.out HDn.out (i := frm + k) (by omega) (by omega)
      have HrA := fun W h => read_disk W b D h (frm + k) (by omega)
      have hbs := blocksD_succ D frm k
      have hsn : streamK (blocksD D frm (k + 1)) = stm1 (streamK (blocksD D frm k)) (D.read (frm + k)).1 := by rw [hbs, streamK_snoc]
      have hsl := streamK_len (blocksD D frm k)
      rw [length_blocksD] at hsl
      obtain ⟨blk, hblk⟩ : ∃ blk, D.read (frm + k) = (blk, 0) := ⟨(D.read (frm + k)).1, by rw [← hrd.1]⟩
      rw [hblk] at hrd HrA hbs hsn
      dsimp only at hrd HrA hbs hsn
      have hbl := hrd.2
      have Hr := Lib.hid HrA
      have HS := Lib.hid hsn
      have HBS := Lib.hid hbs
      have hll := length_blocksD D frm k
      clear HrA hrd hsn hbs hblk
      generalize blocksD D frm k = l at *
      generalize streamK l = sp at *
      obtain ⟨sp, en⟩ := sp
      have hwr := wrap_in (frm + k) (by omega)
      obtain ⟨q, c, hv⟩ := ownsRow_slice2 HR.out
      subst hv
      have hx0 : ∃ x, blk[255]'(by omega) = x := ⟨_, rfl⟩
      obtain ⟨x, hx⟩ := hx0
      have hcx : cntB blk = x.toNat := by unfold cntB; rw [List.getD_eq_getElem?_getD, List.getElem?_eq_getElem (by omega), hx]; rfl
      have hxl := x.toNat_lt
      have hby : (⟨blk.toArray⟩ : ByteArray)[255]'(by show 255 < blk.toArray.size; simp; omega) = x := hx
      have d0 := cell_at (i := 0) HB.out rfl
      go_upto_region 12 with (go_at_call 24; refine (Hr.out _ HD2.out).mono ?_; rintro e w1 ⟨rfl, hk1⟩)
      have g0 := hk1.block _ _ HB.out (fun e => e)
      have o0 := ownsRow_far HR.out (fun g cs _ hh => hk1.block _ _ hh (fun e => e))
      have k0 : Keep nomod w w1 := HK.out.trans hk1
      have hd1 : IsDisk w1 b D := HD2.out.keepM hk1 (fun _ _ _ _ _ e => e)
      have HD3 := Lib.hid hd1
      clear d0 HB HR HK HD2 hk1 hd1
      have d0 := cell_at (i := 0) g0 rfl
      apply wp_region_lit
      refine ls_same (.slice q l.length c) rfl (by go_simp) ?_
      simp only [Act.put, List.setIfInBounds_toArray, List.set_cons_succ, List.set_cons_zero]
      refine ls_same (.string ⟨blk.toArray⟩) rfl (by go_simp) ?_
      simp only [Act.put, List.setIfInBounds_toArray, List.set_cons_succ, List.set_cons_zero]
      refine ls_val rfl (exec_buildSlice1 rfl rfl (run_slice_str _ _)) ?_
      simp only [Act.put, List.setIfInBounds_toArray, List.set_cons_succ, List.set_cons_zero]
      have o1 := World.ownsRow.alloc (w := w1) o0 (.cells #[.string ⟨blk.toArray⟩] 9)
      have g1 := heap_old g0 (.cells #[.string ⟨blk.toArray⟩] 9)
      have gn := heap_new w1 (.cells #[.string ⟨blk.toArray⟩] 9)
      have k1 := k0.alloc (.cells #[.string ⟨blk.toArray⟩] 9)
      have hd1 : IsDisk (w1.alloc (.cells #[.string ⟨blk.toArray⟩] 9)) b D := HD3.out.keepM ((Keep.refl nomod w1).alloc _) (fun _ _ _ _ _ e => e)
      generalize w1.alloc (.cells #[.string ⟨blk.toArray⟩] 9) = w2 at *
      refine ls_act rfl (fun K hK => append_str rfl _ _ _ rfl w.heap.size (.slice q l.length c) l rfl o1 _ blk rfl gn (by omega) k1.size ?_)
      intro g cap w3 o3 hg3 hgg hgl
      refine hK _ _ ?_
      clear hK
      simp only [Act.put, List.setIfInBounds_toArray, List.set_cons_succ, List.set_cons_zero]
      have g3 := grown_cells o1 hg3 g1 (by decide)
      have k3 : Keep nomod w w3 := k1.grown hg3 (fun k o e hk => absurd (heap_lt hk) (by have := (o1.lt k e).1; omega))
      have hd3 : IsDisk w3 b D := by
        obtain ⟨bs, lv, lf, hb', hf, hs', hl', hbb⟩ := hd1.lies
        refine ⟨hd1.ok, hd1.fl, bs, lv, lf, grown_cells o1 hg3 hb' (by decide), hf, grown_cells o1 hg3 hs' (by decide), ownsRow_far hl' (fun g' cs' _ hh => grown_cells o1 hg3 hh (by decide)), hbb⟩
      refine ls_act rfl (fun K hK => wp_store1 24 _ _ rfl w.heap.size 0 rfl (.slice (some ⟨g, 0, none⟩) (l.length + 1) cap) rfl rfl (by kernel_rfl) g3 (by simp) ?_)
      intro w4 p4
      refine hK _ _ ?_
      clear hK
      simp only [Act.put, List.setIfInBounds_toArray, List.set_cons_succ, List.set_cons_zero]
      have g4 := Lib.hid (p4.same1 g3)
      have k4 := Lib.hid (p4.keepNew k3 (Nat.le_refl _))
      have d4 := Lib.hid (p4.disk hd3 g3 (by decide))
      have e1 : (l ++ [blk]).length = l.length + 1 := by simp
      have o4' := p4.row o3 g3 (by decide)
      rw [show Value.slice (some ⟨g, 0, none⟩) (l ++ [blk]).length cap = Value.slice (some ⟨g, 0, none⟩) (l.length + 1) cap by rw [e1]] at o4'
      have o4 := Lib.hid o4'
      clear o4' e1
      clear p4 g3 k3 hd3 o3 hg3 hgg hgl hd1 k1 gn g1 o1 HD3 k0 o0 g0 d0
      apply wpList_nil
      have hcl : cntB blk ≤ blk.length := by omega
      have X1 := fun W => run_sl_to (P := Try.prog) W 9 Try.underlying9 blk .i64 (cntB blk) hcl
      have htl : (blk.take (cntB blk)).length ≤ 255 := by rw [List.length_take]; omega
      rw [hcx] at X1
      cases en with
      | true =>
        have hs2 : streamK (blocksD D frm (k + 1)) = (sp, true) := by rw [HS.out]; rfl
        go_wp2
        go_roundw
        case rel => exact ⟨k + 1, _, by omega, by go_num, by rw [hs2], by rw [hs2], d4, k4, g4, Lib.hid (by rw [HBS.out]; exact o4.out)⟩
        case measure => simp [intOf]; omega
      | false =>
        have hs2 : streamK (blocksD D frm (k + 1)) = (sp ++ blk.take x.toNat, decide (x.toNat < 255)) := by rw [HS.out]; simp [stm1, hcx]
        have HS2 := Lib.hid hs2
        rw [hcx] at htl
        clear hs2
        generalize blk.take x.toNat = tk at *
        go_wp2
        go_roundw
        case rel => exact ⟨k + 1, _, by omega, by go_num, by rw [HS2.out], by rw [HS2.out]; exact congrArg Value.bool (decide_eq_decide.2 (by omega)), d4, k4, g4, Lib.hid (by rw [HBS.out]; exact o4.out)⟩
        case measure => simp [intOf]; omega
    · have hkm : k = m := by omega
      subst hkm
      have hsl := streamK_len (blocksD D frm k)
      have hll := length_blocksD D frm k
      rw [hll] at hsl
      have hl256 : ∀ x ∈ blocksD D frm k, x.length = 256 := by
        intro x hx
        simp only [blocksD, List.mem_map, List.mem_range] at hx
        obtain ⟨j, hj, rfl⟩ := hx
        exact (read_up hOk.out HDn.out (by omega) (by omega)).2
      have HU : Hid (openU D frm k = openU D frm k) := rfl
      unfold openU at HU
      have HU1 : Hid (∀ l, blocksD D frm k = l → ∀ r, scan1 (streamK l).1 = r → openU D frm k = if r.2.2 = 41 ∨ r.2.2 = 4 then (D, none, 60)
        else if (mendW D frm (diffs (fun j => l.getD j []) (countB l ((streamK l).1.take r.2.1)) k)).2 ≠ 0 then ((mendW D frm (diffs (fun j => l.getD j []) (countB l ((streamK l).1.take r.2.1)) k)).1, none, (mendW D frm (diffs (fun j => l.getD j []) (countB l ((streamK l).1.take r.2.1)) k)).2)
        else if (mendW (mendW D frm (diffs (fun j => l.getD j []) (countB l ((streamK l).1.take r.2.1)) k)).1 frm (diffs (countB l ((streamK l).1.take r.2.1)) (laidB ((streamK l).1.take r.2.1)) k)).2 ≠ 0 then ((mendW (mendW D frm (diffs (fun j => l.getD j []) (countB l ((streamK l).1.take r.2.1)) k)).1 frm (diffs (countB l ((streamK l).1.take r.2.1)) (laidB ((streamK l).1.take r.2.1)) k)).1, none, (mendW (mendW D frm (diffs (fun j => l.getD j []) (countB l ((streamK l).1.take r.2.1)) k)).1 frm (diffs (countB l ((streamK l).1.take r.2.1)) (laidB ((streamK l).1.take r.2.1)) k)).2)
        else ((mendW (mendW D frm (diffs (fun j => l.getD j []) (countB l ((streamK l).1.take r.2.1)) k)).1 frm (diffs (countB l ((streamK l).1.take r.2.1)) (laidB ((streamK l).1.take r.2.1)) k)).1, some ((streamK l).1.take r.2.1, r.1), 0)) := fun l hl r hr => by subst hl hr; rfl
      clear HU
      obtain ⟨l, hl⟩ : ∃ l, blocksD D frm k = l := ⟨_, rfl⟩
      rw [hl] at hll hsl HR hl256
      obtain ⟨sp, hsp⟩ : ∃ sp, (streamK l).1 = sp := ⟨_, rfl⟩
      rw [hsp] at hsl
      obtain ⟨rs, gd, er, hr⟩ : ∃ rs gd er, scan1 sp = (rs, gd, er) := ⟨_, _, _, rfl⟩
      have hgd := scan1_le sp
      rw [hr] at hgd
      dsimp only at hgd
      have Hsc := Lib.hid (fun W => scan_c W sp (by omega))
      rw [hr] at Hsc
      have hU2 := HU1.out l hl (rs, gd, er) (by rw [hsp]; exact hr)
      rw [hsp] at hU2
      dsimp only at hU2
      have HU3 := Lib.hid hU2
      rw [hl, hsp]
      clear hU2 HU1 hl hsp hr
      generalize (streamK l).2 = en at *
      by_cases hbad : er = 41 ∨ er = 4
      · have hU4 := HU3.out
        rw [if_pos hbad] at hU4
        have HU4 := Lib.hid hU4
        clear hU4 HU3
        have fin : ∀ W, Keep nomod wr W → openP w b frm k (openU D frm k) (.returned (.tuple #[.pointer none, .slice none 0 0, .int .i64 60])) W := fun W hk => by
          rw [HU4.out]
          exact ⟨_, _, rfl, HD2.out.keepM hk (fun _ _ _ _ _ e => e), (HK.out.trans hk).of_nomod, rfl, rfl⟩
        have Fin := Lib.hid fin
        clear fin
        rcases hbad with rfl | rfl
        · go_wp2_with (go_at_call 25; refine (Hsc.out _).mono ?_; rintro e w1 ⟨⟨rv, rfl, hro⟩, hk1⟩)
          go_ret3
          exact Fin.out _ hk1
        · go_wp2_with (go_at_call 25; refine (Hsc.out _).mono ?_; rintro e w1 ⟨⟨rv, rfl, hro⟩, hk1⟩)
          go_ret3
          exact Fin.out _ hk1
      · have hU4 := HU3.out
        rw [if_neg hbad] at hU4
        have n41 : (er == 41) = false := by simp; omega
        have n4 : (er == 4) = false := by simp; omega
        have X1 := fun W => run_sl_to (P := Try.prog) W 9 Try.underlying9 sp .i64 gd hgd
        have hstl : (sp.take gd).length ≤ 1000000000 := by rw [List.length_take]; omega
        generalize sp.take gd = st at *
        have HU4 := Lib.hid hU4
        clear hU4 HU3 hbad
        obtain ⟨g, cap, cs, hv, hbg, hrow, _, _, hcs, htk⟩ := (HR.out.2.resolve_left (fun e => by have := e.2; omega))
        subst hv
        have hcell : ∀ (j : Nat) (x : Bs), l[j]? = some x → cs[j]? = some (Value.string ⟨x.toArray⟩) := fun j x hx => by
          have h1 : (cellsS l)[j]? = some (Value.string ⟨x.toArray⟩) := by simp [cellsS, hx]
          rw [← htk] at h1
          rw [List.getElem?_take] at h1
          split at h1
          · simpa using h1
          · cases h1
        have hst := StrsAt.mk HB.out hrow hcell
        have Hst := Lib.hid hst
        clear hst hcell htk hcs hrow HR HB
        go_wp2_with (first
          | (go_at_call 25; refine (Hsc.out _).mono ?_; rintro e w1 ⟨⟨rv, rfl, hro⟩, hk1⟩)
          | (go_at_call 26; refine (laid_c _ st).mono ?_; rintro e w' ⟨rfl, rfl⟩))
        have z1 : ((w1.alloc (.cells #[.string ⟨st.toArray⟩] 9)).alloc (.cells #[.nilFunc] 64)).heap[w1.heap.size + 1]? = some (.cells #[.nilFunc] 64 (0, 0)) := heap_new_at (by simp) _
        have z0 : ((w1.alloc (.cells #[.string ⟨st.toArray⟩] 9)).alloc (.cells #[.nilFunc] 64)).heap[w1.heap.size]? = some (.cells #[.string ⟨st.toArray⟩] 9 (0, 0)) := heap_old (heap_new _ _) _
        have hk5 := Lib.hid ((hk1.alloc (.cells #[.string ⟨st.toArray⟩] 9)).alloc (.cells #[.nilFunc] 64))
        have hro5 := Lib.hid ((hro.alloc (.cells #[.string ⟨st.toArray⟩] 9)).alloc (.cells #[.nilFunc] 64))
        generalize (w1.alloc (.cells #[.string ⟨st.toArray⟩] 9)).alloc (.cells #[.nilFunc] 64) = W5 at *
        have hbsz := hk1.size
        generalize w1.heap.size = bs at *
        rw [run_store _ _ _ _ _ rfl, cell_at (i := 0) z1 rfl, frozen_at z1 0]
        have p5 : Put W5 (W5.setCell ⟨bs + 1, 0, none⟩ (.func (.func 51) #[] #[.pointer (some ⟨bs, 0, none⟩)])) (bs + 1) 0 (.func (.func 51) #[] #[.pointer (some ⟨bs, 0, none⟩)]) := rfl
        simp only [Bool.false_eq_true, if_false]
        generalize W5.setCell ⟨bs + 1, 0, none⟩ (.func (.func 51) #[] #[.pointer (some ⟨bs, 0, none⟩)]) = W6 at *
        have z61 := p5.same1 z1
        have z60 := p5.far z0 (by omega)
        have hb1 := heap_lt Hst.out.box
        have hb2 := heap_lt Hst.out.row
        have i5 := Hst.out.keep hk5.out (fun _ _ e => e) (fun _ _ e => e)
        have i6 : openI w.heap.size g cap cs l bs st W6 := ⟨⟨p5.far i5.box (by omega), p5.far i5.row (by omega), i5.cell⟩, z61, z60⟩
        have hs6 : bs + 1 < W6.heap.size := heap_lt z61
        have hI : ∀ W W', openI w.heap.size g cap cs l bs st W → Keep (fun k o => mods diskT k o ∨ W6.heap.size ≤ k) W W' → openI w.heap.size g cap cs l bs st W' := fun W W' h hk => openI_keep (by omega) (by omega) hs6 h hk
        have hk6 : Keep nomod wr W6 := p5.keepNew hk5.out (by omega)
        have hd6 : IsDisk W6 b D := HD2.out.keepM hk6 (fun _ _ _ _ _ e => e)
        have hro6 : W6.ownsRow wr.heap.size 9 1 rv rs.length (cellsS rs) := p5.row hro5.out z1 (by decide)
        have fA : FnOk (.func (.func 27) #[] #[.pointer (some ⟨w.heap.size, 0, none⟩)]) (fun j => l.getD j []) k (openI w.heap.size g cap cs l bs st) :=
          ⟨27, _, rfl, enters_of Try.func27 (by kernel_rfl) rfl, fun W j hW hj => (open1_c W _ _ _ _ l hW.1 j (by omega) (by omega)).mono (by rintro e w' ⟨rfl, rfl⟩; exact ⟨rfl, Keep.refl _ _⟩)⟩
        have fC : FnOk (.func (.func 28) #[] #[.pointer (some ⟨w.heap.size, 0, none⟩), .pointer (some ⟨bs + 1, 0, none⟩)]) (countB l st) k (openI w.heap.size g cap cs l bs st) :=
          ⟨28, _, rfl, enters_of Try.func28 (by kernel_rfl) rfl, fun W j hW hj => open2_c W _ _ _ _ l hW.1 j (by omega) (by omega) hl256 (bs + 1) bs st hstl hW.2.1 hW.2.2⟩
        have fL : FnOk (.func (.func 51) #[] #[.pointer (some ⟨bs, 0, none⟩)]) (laidB st) k (openI w.heap.size g cap cs l bs st) :=
          ⟨51, _, rfl, enters_of Try.func51 (by kernel_rfl) rfl, fun W j hW hj => laid1_c W bs st j hstl (by omega) hW.2.2⟩
        have M1 := Lib.hid (mend_c W6 b D hd6 frm k _ _ (fun j => l.getD j []) (countB l st) _ (by omega) ⟨h2, by omega⟩ (by omega) hI i6 fC fA)
        have hm1L := mendW_L D frm (diffs (fun j => l.getD j []) (countB l st) k)
        have hdl := (diffs_lt (fun j => l.getD j []) (countB l st) k).2
        have hU5 := HU4.out
        generalize mendW D frm (diffs (fun j => l.getD j []) (countB l st) k) = m1 at *
        generalize (diffs (fun j => l.getD j []) (countB l st) k).length = dl at *
        obtain ⟨D1, e1⟩ := m1
        dsimp only at hU5 hm1L
        have HI := Lib.hid hI
        have FC := Lib.hid fC
        have FL := Lib.hid fL
        have HU5 := Lib.hid hU5
        have I6 := Lib.hid i6
        clear hU5 HU4 fA fC fL hI i6 i5 hd6 hro5 hk5 p5 z61 z60 z1 z0 Hst
        have HKw := Lib.hid (HK.out.trans hk6)
        by_cases he1 : e1 = 0
        · subst he1
          have hU6 := HU5.out
          rw [if_neg (by simp)] at hU6
          go_wp2_with fail
          refine M1.out.mono ?_
          rintro e w7 ⟨rfl, hd7, hk7⟩
          have I7 := HI.out _ _ I6.out (hk7.mono fun _ _ e => .inl e)
          have c20 := cell_at (i := 0) I7.2.1 rfl
          have M2 := Lib.hid (mend_c w7 b D1 hd7 frm k _ _ (countB l st) (laidB st) _ (by omega) ⟨h2, by omega⟩ (by omega) (fun W W' h hk => HI.out W W' h (hk.mono fun _ _ e => e.imp id (Nat.le_trans hk7.size))) I7 FL.out FC.out)
          have hro7 := Lib.hid (ownsRow_mods hro6 hk7 (by decide))
          have HK7 := Lib.hid (HKw.out.of_nomod.trans hk7)
          generalize mendW D1 frm (diffs (countB l st) (laidB st) k) = m2 at *
          obtain ⟨D2, e2⟩ := m2
          dsimp only at hU6
          have hk7s := hk7.size
          clear M1 HI FC FL I6 I7 hd7 hk7 hro6 HU5
          by_cases he2 : e2 = 0
          · subst he2
            rw [if_neg (by simp)] at hU6
            have HU6 := Lib.hid hU6
            clear hU6
            go_wp2_with fail
            refine M2.out.mono ?_
            rintro e w8 ⟨rfl, hd8, hk8⟩
            have hro8 := Lib.hid (ownsRow_mods hro7.out hk8 (by decide))
            have hk8s := hk8.size
            have HK8 := Lib.hid (HK7.out.trans hk8)
            have Hd8 := Lib.hid hd8
            clear hd8 hk8 hro7 HK7 M2
            go_wp2
            go_ret3
            show openP _ _ _ _ _ _ _
            rw [HU6.out]
            exact ⟨_, _, rfl, Hd8.out.keepM ((Keep.refl nomod w8).alloc _) (fun _ _ _ _ _ e => e), HK8.out.alloc _, w8.heap.size, rfl, HK8.out.size, heap_new _ _, World.ownsRow.alloc (ownsRow_base hro8.out HK.out.size) _⟩
          · rw [if_pos he2] at hU6
            have HU6 := Lib.hid hU6
            have hne : (e2 != 0) = true := by simpa using he2
            clear hU6
            go_wp2_with fail
            refine M2.out.mono ?_
            rintro e w8 ⟨rfl, hd8, hk8⟩
            go_wp2
            go_ret3
            show openP _ _ _ _ _ _ _
            rw [HU6.out]
            exact ⟨_, _, rfl, hd8, HK7.out.trans hk8, rfl, rfl⟩
        · have hU6 := HU5.out
          rw [if_pos he1] at hU6
          have HU6 := Lib.hid hU6
          have hne : (e1 != 0) = true := by simpa using he1
          clear hU6 HU5
          go_wp2_with fail
          refine M1.out.mono ?_
          rintro e w7 ⟨rfl, hd7, hk7⟩
          go_wp2
          go_ret3
          show openP _ _ _ _ _ _ _
          rw [HU6.out]
          exact ⟨_, _, rfl, hd7, HKw.out.of_nomod.trans hk7, rfl, rfl⟩
/-- Open of any disk -/
theorem open_disk (w : World) (b : Nat) (D : DK) (h : IsDisk w b D) (frm n : Int) (hS : D.S.length ≤ 1000000) (hL : D.L.length ≤ 900000) :
    Calls Try.prog 7 #[.pointer (some ⟨b, 0, none⟩), .int .i64 frm, .int .i64 n] w fun e w' => openP w b frm n.toNat (openW D frm n) e w' := by
  by_cases hm : mayW D.S.length frm n = 0
  · obtain ⟨h1, h2, h3⟩ := mayW_zero hm
    obtain ⟨m, rfl⟩ : ∃ m : Nat, n = m := ⟨n.toNat, by omega⟩
    cases hd : D.down with
    | true =>
      have e : openW D frm m = (D, none, 50) := by unfold openW; rw [if_neg (by rw [hm]; simp), if_pos hd]
      rw [e]
      refine (open_down w b D h frm m hS (by omega) hm hd).mono ?_
      rintro e w' ⟨rfl, hk⟩
      exact ⟨_, _, rfl, h.keepM hk (fun _ _ _ _ _ e => e), hk.of_nomod, rfl, rfl⟩
    | false =>
      have e : openW D frm m = openU D frm m := by unfold openW; rw [if_neg (by rw [hm]; simp), if_neg (by rw [hd]; simp)]; rfl
      rw [e]
      exact open_up w b D h frm m hS hL hm hd
  · have e : openW D frm n = (D, none, mayW D.S.length frm n) := by unfold openW; rw [if_pos hm]
    rw [e]
    refine (open_may w b D h frm n hS hm).mono ?_
    rintro e w' ⟨rfl, rfl⟩
    exact ⟨_, _, rfl, h, Keep.refl _ _, rfl, rfl⟩
end Go.Proofs.Ytimfgeklnlnniaa
