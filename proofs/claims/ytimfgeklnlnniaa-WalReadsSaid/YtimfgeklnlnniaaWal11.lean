/- The log, part 11: Append, where it writes. -/
import Derived.Test.YtimfgeklnlnniaaWal10
namespace Go.Proofs.Ytimfgeklnlnniaa
set_option linter.unusedVariables false
set_option linter.unusedSimpArgs false
open Go.RowKit Go.Shelf
set_option linter.unusedSectionVars false
variable [Floor]
attribute [local go_sem] Oper.semAt_some ba_append
theorem wide_region_mv {P : Program} {ops : Array Oper} {n id : Nat} {K : Act → World → Prop} {Q0 : Exit → Act → World → Prop} {a : Act} {w : World} (S : Nat → World → Prop) (m : Mv) (hf : P.follows .mixedOrders = true) (hs : Region.noSelect ops = true)
    (hm : m.ok ops m.stills true (Array.replicate ops.size false) ops.size = true) (hS : ∀ k, S k w.drew) (h : wpM P ops (Exit.then K (fun _ _ _ => False)) S m a w.drew) : (Code.region id ops true).wpIn Fence.wide n P (Exit.then K Q0) a w :=
  Go.wpIn_mono (wpIn_wide.2 (wp_region_mv S m hf hs hm (fun _ _ _ _ _ h => h) hS h)) fun e a w h => by
    cases e <;> first | exact h | exact h.elim
/-- what a write comes to -/
def appR (D : DK) (G : LG) (n : Nat) (fr : Bs) : DK × LG × Int :=
  if (writesK D (shiftL G.frm (diffs (laidB G.s) (laidB (G.s ++ fr)) n))).2 ≠ 0 then ((writesK D (shiftL G.frm (diffs (laidB G.s) (laidB (G.s ++ fr)) n))).1, { G with broken := true }, (writesK D (shiftL G.frm (diffs (laidB G.s) (laidB (G.s ++ fr)) n))).2)
  else ((writesK D (shiftL G.frm (diffs (laidB G.s) (laidB (G.s ++ fr)) n))).1, { G with s := G.s ++ fr }, 0)
/-- between two writes -/
def appI (w : World) (g : Nat) (G : LG) (D : DK) (W : World) (pre : List (Nat × Bs)) : Prop :=
  (writesK D (shiftL G.frm pre)).2 = 0 ∧ IsDisk W G.b (writesK D (shiftL G.frm pre)).1 ∧ IsLog W g G ∧ W.heap[w.heap.size]? = some (.cells #[.pointer (some ⟨g, 0, none⟩)] 23 (0, 0)) ∧
  W.heap[w.heap.size + 1]? = some (.cells #[.int .i64 0] 25 (0, 0)) ∧ Keep (mods logT) w W ∧ w.heap.size + 7 ≤ W.heap.size
def appX (w : World) (g : Nat) (G : LG) (D : DK) (l : List (Nat × Bs)) (W : World) : Prop :=
  (writesK D (shiftL G.frm l)).2 ≠ 0 ∧ IsDisk W G.b (writesK D (shiftL G.frm l)).1 ∧ IsLog W g { G with broken := true } ∧
  W.heap[w.heap.size + 1]? = some (.cells #[.int .i64 (writesK D (shiftL G.frm l)).2] 25 (0, 0)) ∧ Keep (mods logT) w W ∧ w.heap.size + 7 ≤ W.heap.size
theorem keep_lr {w W W' : World} {l : List Nat} {m : Nat} (h : Keep (mods l) w W) (hm : w.heap.size ≤ m) (hk : Keep (fun k o => False ∨ lr m k o) W W') : Keep (mods l) w W' :=
  ⟨hk.os.trans h.os, hk.tape.trans h.tape, hk.output.trans h.output, Nat.le_trans h.size hk.size, fun k o hk' hn' => hk.block _ _ (h.block k o hk' hn') (fun e => by
    have := heap_lt hk'
    rcases e with e | ⟨e, _⟩
    · exact e
    · omega)⟩
theorem lr_no {m k : Nat} {cs : Array Value} {t : TypeId} {fr : Nat × Nat} : ¬ (False ∨ lr m k (.cells cs t fr)) := fun e => e.elim id lr_cells
theorem appI_keep {w W W' : World} {g m : Nat} {G : LG} {D : DK} {pre : List (Nat × Bs)} (h : appI w g G D W pre) (hm : w.heap.size ≤ m) (hk : Keep (fun k o => False ∨ lr m k o) W W') : appI w g G D W' pre := by
  obtain ⟨h1, h2, h3, h4, h5, h6, h7⟩ := h
  exact ⟨h1, h2.keepM hk (fun _ _ _ _ _ => lr_no), h3.keep hk (fun _ _ => lr_no), hk.block _ _ h4 lr_no, hk.block _ _ h5 lr_no, keep_lr h6 hm hk, Nat.le_trans h7 hk.size⟩
theorem appX_keep {w W W' : World} {g m : Nat} {G : LG} {D : DK} {l : List (Nat × Bs)} (h : appX w g G D l W) (hm : w.heap.size ≤ m) (hk : Keep (fun k o => False ∨ lr m k o) W W') : appX w g G D l W' := by
  obtain ⟨h1, h2, h3, h5, h6, h7⟩ := h
  exact ⟨h1, h2.keepM hk (fun _ _ _ _ _ => lr_no), h3.keep hk (fun _ _ => lr_no), hk.block _ _ h5 lr_no, keep_lr h6 hm hk, Nat.le_trans h7 hk.size⟩
def appM (w : World) : Nat → Obj → Prop := fun k o => mods logT k o ∨ k = w.heap.size + 1
set_option maxRecDepth 100000 in
set_option maxHeartbeats 1000000 in
theorem append_do (w : World) (g : Nat) (G : LG) (D : DK) (h : IsLog w g G) (hD : IsDisk w G.b D) (t : Bs) (n : Nat) (hn : G.n = n) (hn2 : n ≤ 1000000) (hs : G.s.length ≤ 1000000000) (ht : t.length ≤ 1000000000) (hbr : G.broken = false) (her : (frame1 t).2 = 0)
    (hfit : (frame1 t).1.length ≤ (n : Int) * 255 - G.s.length) (hf0 : 0 ≤ G.frm ∧ G.frm ≤ 1000000) (hL : D.L.length ≤ 1000000) (hfg : Floor.b ≤ g) :
    Calls Try.prog 8 #[.pointer (some ⟨g, 0, none⟩), .string ⟨t.toArray⟩] w fun e w' => appP w g (appR D G n (frame1 t).1) e w' := by
  have H := Lib.hid (fun W h => lnone_log W g G h)
  have HF := Lib.hid (fun W => frame_c W t (by omega))
  have HR := Lib.hid (fun W h => room_log W g G h (by omega) (by omega) hs)
  rw [hn] at HR
  have hW : ∀ v o, IsLog ((w.alloc v).alloc o) g G := fun v o => heap_old (heap_old h _) _
  have hc := fun v o => (hW v o).c4
  rw [hbr] at hc
  have HW := Lib.hid hW
  clear hW h
  rw [her] at HF
  clear her
  generalize (frame1 t).1 = fr at *
  refine (callsIn_wide (n := 5)).1 ?_
  refine callsIn_of_wp_marks Try.func8 rfl trivial ?_
  simp only [Try.ntmps8, List.size_toArray, List.length_cons, List.length_nil, Nat.reduceAdd, Nat.reduceSub, Array.replicate_succ, Array.replicate_zero, List.push_toArray, List.append_toArray, List.nil_append, List.cons_append]
  gi_wp2_with fail
  refine ⟨trivial, ?_⟩
  refine (callsIn_wide.2 (H.out _ (HW.out _ _))).mono ?_
  rintro e w' ⟨rfl, rfl⟩
  have z1 : ((w.alloc (.cells #[.pointer (some ⟨g, 0, none⟩)] 23)).alloc (.cells #[.int .i64 0] 25)).heap[w.heap.size + 1]? = some (.cells #[.int .i64 0] 25 (0, 0)) := heap_new_at (by simp) _
  have hk0 : Keep nomod w ((w.alloc (.cells #[.pointer (some ⟨g, 0, none⟩)] 23)).alloc (.cells #[.int .i64 0] 25)) := ((Keep.refl nomod _).alloc _).alloc _
  have hl0 := HW.out (.cells #[.pointer (some ⟨g, 0, none⟩)] 23) (.cells #[.int .i64 0] 25)
  have z0 : ((w.alloc (.cells #[.pointer (some ⟨g, 0, none⟩)] 23)).alloc (.cells #[.int .i64 0] 25)).heap[w.heap.size]? = some (.cells #[.pointer (some ⟨g, 0, none⟩)] 23 (0, 0)) := heap_old (heap_new _ _) _
  have c0 := cell_at (i := 0) z0 rfl
  have c4 := hl0.c4
  rw [hbr] at c4
  clear hc
  generalize (w.alloc (.cells #[.pointer (some ⟨g, 0, none⟩)] 23)).alloc (.cells #[.int .i64 0] 25) = W0 at *
  gi_wp2_with fail
  refine ⟨trivial, ?_⟩
  refine (callsIn_wide.2 (HF.out _)).mono ?_
  rintro e w1 ⟨rfl, hk1⟩
  have y1 := hk1.block _ _ z1 (fun e => e)
  have y0 := hk1.block _ _ z0 (fun e => e)
  have hl1 := hl0.keep hk1 (fun _ _ e => e)
  have c1 := cell_at (i := 0) y0 rfl
  clear c0 c4
  gi_wp2_with fail
  refine ⟨trivial, ?_⟩
  refine (callsIn_wide.2 (HR.out _ hl1)).mono ?_
  rintro e w2 ⟨rfl, hk2⟩
  have x1 := hk2.block _ _ y1 (fun e => e)
  have c2 := cell_at (i := 0) x1 rfl
  have f2 := frozen_at x1 0
  clear c1
  have x0 := hk2.block _ _ y0 (fun e => e)
  have hl2 := hl1.keep hk2 (fun _ _ e => e)
  have c3 := cell_at (i := 0) x0 rfl
  have d3 := hl2.c3
  have hgt : (fr.length : Int) ≤ (n : Int) * 255 - (G.s.length : Int) := hfit
  have hsum : G.s.length + fr.length ≤ 1000000000 := by omega
  obtain ⟨room, hroom⟩ : ∃ room : Int, (n : Int) * 255 - (G.s.length : Int) = room := ⟨_, rfl⟩
  rw [hroom] at hgt
  rw [hroom]
  clear hroom hfit
  gi_wp2
  refine wide_region_mv (fun _ W => W.heap[w.heap.size]? = some (.cells #[.pointer (some ⟨g, 0, none⟩)] 23 (0, 0)) ∧ IsLog W g G) (.still 0 (.still 1 (.still 2 (.still 3 (.still 4 (.still 5 (.still 6 (.still 7 (.still 9 (.act 8 [0, 1, 2, 3, 9] (.act 10 [0, 1, 2, 3] (.act 11 [] (.fin)))))))))))))
    (by kernel_rfl) (by kernel_rfl) (by kernel_rfl) (fun _ => ⟨x0, hl2⟩) ?_
  refine m3_still _ (.pointer (some ⟨g, 0, none⟩)) rfl rfl (fun W hS => by have d := cell_at hS.1 (i := 0) rfl; go_simp) ?_
  simp only [List.getElem_toArray, List.getElem_cons_succ, List.getElem_cons_zero, Act.put, List.setIfInBounds_toArray, List.set_cons_succ, List.set_cons_zero]
  refine m3_still _ (.pointer (some ⟨g, 0, none⟩)) rfl rfl (fun W hS => by have d := hS.2.c0; go_simp) ?_
  simp only [List.getElem_toArray, List.getElem_cons_succ, List.getElem_cons_zero, Act.put, List.setIfInBounds_toArray, List.set_cons_succ, List.set_cons_zero]
  refine m3_still _ (.pointer (some ⟨g, 2, none⟩)) rfl rfl (fun W hS => by go_simp) ?_
  simp only [List.getElem_toArray, List.getElem_cons_succ, List.getElem_cons_zero, Act.put, List.setIfInBounds_toArray, List.set_cons_succ, List.set_cons_zero]
  refine m3_still _ (.int .i64 n) rfl rfl (fun W hS => by have d := hS.2.c2; rw [hn] at d; go_simp) ?_
  simp only [List.getElem_toArray, List.getElem_cons_succ, List.getElem_cons_zero, Act.put, List.setIfInBounds_toArray, List.set_cons_succ, List.set_cons_zero]
  refine m3_still _ (.pointer (some ⟨g, 0, none⟩)) rfl rfl (fun W hS => by have d := cell_at hS.1 (i := 0) rfl; go_simp) ?_
  simp only [List.getElem_toArray, List.getElem_cons_succ, List.getElem_cons_zero, Act.put, List.setIfInBounds_toArray, List.set_cons_succ, List.set_cons_zero]
  refine m3_still _ (.pointer (some ⟨g, 0, none⟩)) rfl rfl (fun W hS => by have d := hS.2.c0; go_simp) ?_
  simp only [List.getElem_toArray, List.getElem_cons_succ, List.getElem_cons_zero, Act.put, List.setIfInBounds_toArray, List.set_cons_succ, List.set_cons_zero]
  refine m3_still _ (.pointer (some ⟨g, 3, none⟩)) rfl rfl (fun W hS => by go_simp) ?_
  simp only [List.getElem_toArray, List.getElem_cons_succ, List.getElem_cons_zero, Act.put, List.setIfInBounds_toArray, List.set_cons_succ, List.set_cons_zero]
  refine m3_still _ (.string ⟨G.s.toArray⟩) rfl rfl (fun W hS => by have d := hS.2.c3; go_simp) ?_
  simp only [List.getElem_toArray, List.getElem_cons_succ, List.getElem_cons_zero, Act.put, List.setIfInBounds_toArray, List.set_cons_succ, List.set_cons_zero]
  refine m3_still _ (.string ⟨(G.s ++ fr).toArray⟩) rfl rfl (fun W hS => by go_simp) ?_
  simp only [List.getElem_toArray, List.getElem_cons_succ, List.getElem_cons_zero, Act.put, List.setIfInBounds_toArray, List.set_cons_succ, List.set_cons_zero]
  refine m3_act _ rfl rfl (fun K hK => ?_)
  simp only [List.getElem_toArray, List.getElem_cons_succ, List.getElem_cons_zero, Act.put, List.setIfInBounds_toArray, List.set_cons_succ, List.set_cons_zero]
  go_simp
  go_at_call 26
  refine (laid_c _ G.s).mono ?_
  rintro e w' ⟨rfl, rfl⟩
  refine hK _ _ (fun _ _ => ⟨heap_old (w := w2.drew) x0 _, heap_old (w := w2.drew) hl2 _⟩) ?_
  clear hK
  try simp only [List.getElem_toArray, List.getElem_cons_succ, List.getElem_cons_zero, Act.put, List.setIfInBounds_toArray, List.set_cons_succ, List.set_cons_zero]
  refine m3_act _ rfl rfl (fun K hK => ?_)
  simp only [List.getElem_toArray, List.getElem_cons_succ, List.getElem_cons_zero, Act.put, List.setIfInBounds_toArray, List.set_cons_succ, List.set_cons_zero]
  go_simp
  go_at_call 26
  refine (laid_c _ (G.s ++ fr)).mono ?_
  rintro e w' ⟨rfl, rfl⟩
  refine hK _ _ (fun _ _ => ⟨heap_old (heap_old (w := w2.drew) x0 _) _, heap_old (heap_old (w := w2.drew) hl2 _) _⟩) ?_
  clear hK
  try simp only [List.getElem_toArray, List.getElem_cons_succ, List.getElem_cons_zero, Act.put, List.setIfInBounds_toArray, List.set_cons_succ, List.set_cons_zero]
  refine m3_act _ rfl rfl (fun K hK => ?_)
  simp only [List.getElem_toArray, List.getElem_cons_succ, List.getElem_cons_zero, Act.put, List.setIfInBounds_toArray, List.set_cons_succ, List.set_cons_zero]
  go_simp
  go_at_call 32
  refine (others_c _ n _ _ _ _ _ _ rfl rfl).mono ?_
  rintro e w' ⟨rfl, rfl⟩
  refine hK _ _ (fun _ h => (by cases h)) ?_
  clear hK
  refine m3_end ?_
  gi_wp2
  have hds : ((w2.alloc (Obj.cells #[Value.string { data := List.toArray G.s }] 9)).alloc (Obj.cells #[Value.string { data := List.toArray (G.s ++ fr) }] 9)).drew.heap.size = w2.heap.size + 2 := by simp
  rw [hds]
  clear hds
  obtain ⟨W0, hW0⟩ : ∃ W0, (((((w2.alloc (Obj.cells #[Value.string { data := List.toArray G.s }] 9)).alloc (Obj.cells #[Value.string { data := List.toArray (G.s ++ fr) }] 9)).drew.alloc (Obj.cells #[Value.int IntKind.i64 n] 3)).alloc
      (Obj.cells #[Value.func (Fn.func 51) #[] #[Value.pointer (some { block := w2.heap.size, off := 0 })]] 64)).alloc (Obj.cells #[Value.func (Fn.func 51) #[] #[Value.pointer (some { block := w2.heap.size + 1, off := 0 })]] 64)) = W0 := ⟨_, rfl⟩
  have hsz : W0.heap.size = w2.heap.size + 5 := by rw [← hW0]; simp
  have b0 : W0.heap[w2.heap.size]? = some (.cells #[.string ⟨G.s.toArray⟩] 9 (0, 0)) := by rw [← hW0]; exact heap_old (heap_old (heap_old (w := (World.alloc _ _).drew) (heap_old (heap_new _ _) _) _) _) _
  have b1 : W0.heap[w2.heap.size + 1]? = some (.cells #[.string ⟨(G.s ++ fr).toArray⟩] 9 (0, 0)) := by rw [← hW0]; exact heap_old (heap_old (heap_old (w := (World.alloc _ _).drew) (heap_new_at (by simp) _) _) _) _
  have b2 : W0.heap[w2.heap.size + 2]? = some (.cells #[.int .i64 n] 3 (0, 0)) := by rw [← hW0]; exact heap_old (heap_old (heap_new_at (by simp) _) _) _
  have b3 : W0.heap[w2.heap.size + 3]? = some (.cells #[.func (.func 51) #[] #[.pointer (some ⟨w2.heap.size, 0, none⟩)]] 64 (0, 0)) := by rw [← hW0]; exact heap_old (heap_new_at (by simp) _) _
  have b4 : W0.heap[w2.heap.size + 4]? = some (.cells #[.func (.func 51) #[] #[.pointer (some ⟨w2.heap.size + 1, 0, none⟩)]] 64 (0, 0)) := by rw [← hW0]; exact heap_new_at (by simp) _
  have hk20 : Keep nomod w2 W0 := by rw [← hW0]; exact (((((Keep.refl nomod w2).alloc _).alloc _).drew.alloc _).alloc _).alloc _
  have hkw : Keep nomod w W0 := ((hk0.trans hk1).trans hk2).trans hk20
  have hws : w.heap.size + 2 ≤ w2.heap.size := by have := heap_lt x1; omega
  have i0 : appI w g G D W0 [] := ⟨rfl, hD.keepM hkw (fun _ _ _ _ _ e => e), hl2.keep hk20 (fun _ _ e => e), hk20.block _ _ x0 (fun e => e), hk20.block _ _ x1 (fun e => e), hkw.of_nomod, by omega⟩
  rw [hW0]
  generalize w2.heap.size = c at *
  have hgB : g ≠ w.heap.size + 1 := fun e => by rw [e] at hl0; unfold IsLog at hl0; rw [z1] at hl0; cases hl0
  clear hW0 hk20 hl2 hl1 hl0 x0 x1 y0 y1 z0 z1 hk0 hk1 hk2 hkw HW H HF HR c2 f2 c3 d3
  have fL : ∀ (s : Bs) (bs : Nat), s.length ≤ 1000000000 → (bs = c ∧ s = G.s ∨ bs = c + 1 ∧ s = G.s ++ fr) → FnOk (.func (.func 51) #[] #[.pointer (some ⟨bs, 0, none⟩)]) (laidB s) n (fun W => W.heap[c]? = some (.cells #[.string ⟨G.s.toArray⟩] 9 (0, 0)) ∧ W.heap[c + 1]? = some (.cells #[.string ⟨(G.s ++ fr).toArray⟩] 9 (0, 0))) :=
    fun s bs hs' hb => ⟨51, _, rfl, enters_of Try.func51 (by kernel_rfl) rfl, fun W j hW hj => laid1_c W bs s j hs' (by omega) (by rcases hb with ⟨rfl, rfl⟩ | ⟨rfl, rfl⟩ <;> first | exact hW.1 | exact hW.2)⟩
  have hss : (G.s ++ fr).length ≤ 1000000000 := by rw [List.length_append]; omega
  refine wp_range 54 #[.pointer (some ⟨c + 2, 0, none⟩), .pointer (some ⟨c + 4, 0, none⟩), .pointer (some ⟨c + 3, 0, none⟩)] rfl (enters_of Try.func54 (by kernel_rfl) rfl)
    (others1_c W0 (c + 2) (c + 4) (c + 3) n _ _ (laidB (G.s ++ fr)) (laidB G.s) (fun W => W.heap[c]? = some (.cells #[.string ⟨G.s.toArray⟩] 9 (0, 0)) ∧ W.heap[c + 1]? = some (.cells #[.string ⟨(G.s ++ fr).toArray⟩] 9 (0, 0))) hn2
      (fun W W' hW hk => ⟨hk.block _ _ hW.1 (fun e => e), hk.block _ _ hW.2 (fun e => e)⟩) ⟨b0, b1⟩ b2 b4 b3 (fL _ _ hss (.inr ⟨rfl, rfl⟩)) (fL _ _ hs (.inl ⟨rfl, rfl⟩))) (fun _ => rfl)
    (appM w) ?ok (fun k e => e.elim) ?cells (fun pre W => appI w g G D W pre) (fun c' _ W => c' = .ret ∧ appX w g G D (diffs (laidB G.s) (laidB (G.s ++ fr)) n) W)
    (fun pre W W' h hk => appI_keep h (by omega) hk) (fun c pre W W' h hk => ⟨h.1, appX_keep h.2 (by omega) hk⟩) i0 ?round ?done ?stop
  case ok =>
    have hno : ∀ k t cs fr, t ∉ logT → k ≠ w.heap.size + 1 → ¬ (appM w k (.cells cs t fr) ∨ lr W0.heap.size k (.cells cs t fr)) := fun k t cs fr h1 h2 e => by
      rcases e with (e | e) | e
      · exact h1 e.1
      · exact h2 e
      · exact lr_cells e
    exact ⟨fun W W' hW hk => ⟨hk.block _ _ hW.1 (hno _ _ _ _ (by decide) (by omega)), hk.block _ _ hW.2 (hno _ _ _ _ (by decide) (by omega))⟩, fun cs fr => hno _ _ _ _ (by decide) (by omega), fun cs fr => hno _ _ _ _ (by decide) (by omega), fun cs fr => hno _ _ _ _ (by decide) (by omega)⟩
  case cells =>
    rintro k o hk (e | e)
    · cases o with
      | cells cs t fr => exact ⟨_, _, _, rfl⟩
      | _ => simp [mods, tagOf] at e
    · omega
  case round =>
    rintro l pre ⟨k, y⟩ rest W hl hlt hx hi
    have hkn : k < n := (diffs_lt _ _ n).1 (k, y) (by rw [hx]; simp)
    have hpl : pre.length ≤ n := by have := (diffs_lt (laidB G.s) (laidB (G.s ++ fr)) n).2; rw [hx] at this; simp at this; omega
    dsimp only [enc2]
    gi_wp2
    refine ⟨Keep.refl _ _, ?_⟩
    intro W2 hk2 hs2
    have hi2 := appI_keep hi (by omega) (hk2.mono fun _ _ e => .inr e)
    clear hi hk2 hs2 hlt
    obtain ⟨q1, q2, q3, q4, q5, q6, q7⟩ := hi2
    have hll := (writesK_L (shiftL G.frm pre) D).2
    rw [show (shiftL G.frm pre).length = pre.length by simp [shiftL]] at hll
    have hst : writesK D (shiftL G.frm (pre ++ [(k, y)])) = (writesK D (shiftL G.frm pre)).1.write (G.frm + k) y := by rw [shiftL_append]; exact (writesK_snoc D _ _).trans (by rw [wr1, if_pos q1])
    generalize (writesK D (shiftL G.frm pre)).1 = Dk at *
    have HS := Lib.hid hst
    have HDk := Lib.hid q2
    clear hst q2 q1
    obtain ⟨er, her⟩ : ∃ er, (Dk.write (G.frm + k) y).2 = er := ⟨_, rfl⟩
    have Hwr := Lib.hid (fun W h => write_disk W G.b Dk h (G.frm + k) y (by omega))
    rw [her] at Hwr
    have Hx := Lib.hid hx
    have Her := Lib.hid her
    clear hx her
    gi_wp2
    refine round_region_mv (fun _ W => W.heap[w.heap.size]? = some (.cells #[.pointer (some ⟨g, 0, none⟩)] 23 (0, 0)) ∧ IsLog W g G) (.still 0 (.still 1 (.still 2 (.still 3 (.still 4 (.still 5 (.still 6 (.still 7 (.still 8 (.still 9 (.still 10 (.act 11 [] (.act 12 [] (.fin))))))))))))))
      (fun ⟨_, _, h⟩ => h) (by kernel_rfl) (by kernel_rfl) (by kernel_rfl) (by kernel_rfl) (fun _ _ _ _ _ h => h) (fun _ => ⟨q4, q3⟩) ?_
    refine m3_still _ (.pointer (some ⟨g, 0, none⟩)) rfl rfl (fun W hS => by have d := cell_at hS.1 (i := 0) rfl; go_simp) ?_
    simp only [List.getElem_toArray, List.getElem_cons_succ, List.getElem_cons_zero, Act.put, List.setIfInBounds_toArray, List.set_cons_succ, List.set_cons_zero]
    refine m3_still _ (.pointer (some ⟨g, 0, none⟩)) rfl rfl (fun W hS => by have d := hS.2.c0; go_simp) ?_
    simp only [List.getElem_toArray, List.getElem_cons_succ, List.getElem_cons_zero, Act.put, List.setIfInBounds_toArray, List.set_cons_succ, List.set_cons_zero]
    refine m3_still _ (.pointer (some ⟨g, 0, none⟩)) rfl rfl (fun W hS => by go_simp) ?_
    simp only [List.getElem_toArray, List.getElem_cons_succ, List.getElem_cons_zero, Act.put, List.setIfInBounds_toArray, List.set_cons_succ, List.set_cons_zero]
    refine m3_still _ (.pointer (some ⟨G.b, 0, none⟩)) rfl rfl (fun W hS => by have d := hS.2.c0; go_simp) ?_
    simp only [List.getElem_toArray, List.getElem_cons_succ, List.getElem_cons_zero, Act.put, List.setIfInBounds_toArray, List.set_cons_succ, List.set_cons_zero]
    refine m3_still _ (.pointer (some ⟨g, 0, none⟩)) rfl rfl (fun W hS => by have d := cell_at hS.1 (i := 0) rfl; go_simp) ?_
    simp only [List.getElem_toArray, List.getElem_cons_succ, List.getElem_cons_zero, Act.put, List.setIfInBounds_toArray, List.set_cons_succ, List.set_cons_zero]
    refine m3_still _ (.pointer (some ⟨g, 0, none⟩)) rfl rfl (fun W hS => by have d := hS.2.c0; go_simp) ?_
    simp only [List.getElem_toArray, List.getElem_cons_succ, List.getElem_cons_zero, Act.put, List.setIfInBounds_toArray, List.set_cons_succ, List.set_cons_zero]
    refine m3_still _ (.pointer (some ⟨g, 1, none⟩)) rfl rfl (fun W hS => by go_simp) ?_
    simp only [List.getElem_toArray, List.getElem_cons_succ, List.getElem_cons_zero, Act.put, List.setIfInBounds_toArray, List.set_cons_succ, List.set_cons_zero]
    refine m3_still _ (.int .i64 G.frm) rfl rfl (fun W hS => by have d := hS.2.c1; go_simp) ?_
    simp only [List.getElem_toArray, List.getElem_cons_succ, List.getElem_cons_zero, Act.put, List.setIfInBounds_toArray, List.set_cons_succ, List.set_cons_zero]
    refine m3_still _ (.int .i64 k) rfl rfl (fun W hS => by go_simp) ?_
    simp only [List.getElem_toArray, List.getElem_cons_succ, List.getElem_cons_zero, Act.put, List.setIfInBounds_toArray, List.set_cons_succ, List.set_cons_zero]
    refine m3_still _ (.int .i64 (G.frm + k)) rfl rfl (fun W hS => by go_simp; exact wrap_in _ (by omega)) ?_
    simp only [List.getElem_toArray, List.getElem_cons_succ, List.getElem_cons_zero, Act.put, List.setIfInBounds_toArray, List.set_cons_succ, List.set_cons_zero]
    refine m3_still _ (.string ⟨y.toArray⟩) rfl rfl (fun W hS => by go_simp) ?_
    simp only [List.getElem_toArray, List.getElem_cons_succ, List.getElem_cons_zero, Act.put, List.setIfInBounds_toArray, List.set_cons_succ, List.set_cons_zero]
    refine m3_act _ rfl rfl (fun K hK => ?_)
    simp only [List.getElem_toArray, List.getElem_cons_succ, List.getElem_cons_zero, Act.put, List.setIfInBounds_toArray, List.set_cons_succ, List.set_cons_zero]
    go_simp
    go_at_call 33
    refine (Hwr.out W2.drew (HDk.out.keepM (Keep.refl nomod W2).drew (fun _ _ _ _ _ e => e))).mono ?_
    rintro e w3 ⟨rfl, hd3, hk3⟩
    have y4 := hk3.cells q4 (by decide)
    have y5 := hk3.cells q5 (by decide)
    have y3 : IsLog w3 g G := hk3.cells q3 (by decide)
    have hs3 : W2.heap.size ≤ w3.heap.size := hk3.size
    have hk3' : Keep (mods diskT) W2 w3 := (Keep.refl _ W2).drew.trans hk3
    refine hK _ _ (fun _ _ => ⟨y4, y3⟩) ?_
    clear hK
    try simp only [List.getElem_toArray, List.getElem_cons_succ, List.getElem_cons_zero, Act.put, List.setIfInBounds_toArray, List.set_cons_succ, List.set_cons_zero]
    refine m3_act _ rfl rfl (fun K hK => ?_)
    simp only [List.getElem_toArray, List.getElem_cons_succ, List.getElem_cons_zero, Act.put, List.setIfInBounds_toArray, List.set_cons_succ, List.set_cons_zero]
    go_simp
    refine hK _ _ (fun _ h => (by cases h)) ?_
    clear hK
    refine m3_end ?_
    have c4 := cell_at (i := 0) y4 rfl
    have g0 := y3.c0
    have g4 := y3.c4
    have gf := y3.fr 4
    have c5 := cell_at (i := 0) y5 rfl
    have f5 := frozen_at y5 0
    by_cases he : er = 0
    · subst he
      gi_wp2
      refine ⟨hk3'.mono fun _ _ e => .inl ⟨List.mem_cons_of_mem _ e.1, e.2⟩, by rw [HS.out]; exact Her.out, by rw [HS.out]; exact hd3, y3, y4, y5, q6.trans (hk3'.mods_mono (fun x hx => List.mem_cons_of_mem _ hx)), by omega⟩
    · have hne : (er != 0) = true := by simpa using he
      gi_wp2
      have pa : Put w3 (w3.setCell ⟨g, 4, none⟩ (.bool true)) g 4 (.bool true) := rfl
      generalize w3.setCell ⟨g, 4, none⟩ (.bool true) = w4 at *
      have pb : Put w4 (w4.setCell ⟨w.heap.size + 1, 0, none⟩ (.int .i64 er)) (w.heap.size + 1) 0 (.int .i64 er) := rfl
      generalize w4.setCell ⟨w.heap.size + 1, 0, none⟩ (.int .i64 er) = w5 at *
      have y5' := pa.far y5 (by omega)
      have y3' : IsLog w4 g { G with broken := true } := pa.same y3
      have hw2 : (writesK D (shiftL G.frm (pre ++ [(k, y)]))).2 ≠ 0 := by rw [HS.out, Her.out]; exact he
      have hall : writesK D (shiftL G.frm (diffs (laidB G.s) (laidB (G.s ++ fr)) n)) = Dk.write (G.frm + k) y := by
        rw [Hx.out, show pre ++ (k, y) :: rest = (pre ++ [(k, y)]) ++ rest by simp, shiftL_append, writesK_stop hw2, HS.out]
      have hk5 : Keep (mods logT) w w5 := pb.keepNew (pa.keep (q6.trans (hk3'.mods_mono (fun x hx => List.mem_cons_of_mem _ hx))) (fun o ho => q6.may q3 (List.mem_cons_self ..) hfg o ho)) (by omega)
      have hk6 : Keep (appM w) W2 w5 := pb.keep (pa.keep (hk3'.mono fun _ _ e => .inl ⟨List.mem_cons_of_mem _ e.1, e.2⟩) (fun o ho => .inl (by unfold IsLog at q3; rw [q3] at ho; cases ho; exact ⟨List.mem_cons_self .., hfg⟩))) (fun _ _ => .inr rfl)
      refine ⟨hk6, rfl, by rw [hall, Her.out]; exact he, by rw [hall]; exact pb.disk (pa.disk hd3 y3 (by decide)) y5' (by decide), pb.far y3' hgB, by rw [hall, Her.out]; exact pb.same1 y5', hk5, by rw [pb.size, pa.size]; omega⟩
  case done =>
    rintro Dd W hD' hi hK
    obtain ⟨q1, q2, q3, q4, q5, q6, q7⟩ := hi
    have Q1 := Lib.hid q1
    have Q2 := Lib.hid q2
    clear q1 q2
    have c4 := cell_at (i := 0) q4 rfl
    have g3 := q3.c3
    have gf := q3.fr 3
    have g0 := q3.c0
    have c5 := cell_at (i := 0) q5 rfl
    have f5 := frozen_at q5 0
    gi_wp2
    have pa : Put W (W.setCell ⟨g, 3, none⟩ (.string ⟨(G.s ++ fr).toArray⟩)) g 3 (.string ⟨(G.s ++ fr).toArray⟩) := rfl
    generalize W.setCell ⟨g, 3, none⟩ (.string ⟨(G.s ++ fr).toArray⟩) = w4 at *
    have pb : Put w4 (w4.setCell ⟨w.heap.size + 1, 0, none⟩ (.int .i64 0)) (w.heap.size + 1) 0 (.int .i64 0) := rfl
    generalize w4.setCell ⟨w.heap.size + 1, 0, none⟩ (.int .i64 0) = w5 at *
    have y5' := pa.far q5 (by omega)
    have y3' : IsLog w4 g { G with s := G.s ++ fr } := pa.same q3
    have hKg : Dd ≠ g := fun e => by subst e; unfold IsLog at q3; rw [hK] at q3; cases q3
    have hk5 : Keep (mods logT) w w5 := pb.keepNew (pa.keep q6 (fun o ho => q6.may q3 (List.mem_cons_self ..) hfg o ho)) (by omega)
    have hk7 : ∀ W', Keep (shut Dd) w5 W' → Keep (mods logT) w W' := fun W' hp => ⟨hp.os.trans hk5.os, hp.tape.trans hk5.tape, hp.output.trans hk5.output, Nat.le_trans hk5.size hp.size, fun k o hk' hn => hp.block _ _ (hk5.block k o hk' hn) (fun e => by have := heap_lt hk'; have := e.1; omega)⟩
    refine app_leaveM (bx := w.heap.size + 1) (Dd := Dd) rfl rfl rfl (pb.same1 y5') (pb.far (pa.far hK hKg) (by omega)) (fun W' hp => ?_)
    have hR : appR D G n fr = ((writesK D (shiftL G.frm (diffs (laidB G.s) (laidB (G.s ++ fr)) n))).1, { G with s := G.s ++ fr }, 0) := if_neg (by rw [Q1.out]; simp)
    rw [hR]
    exact ⟨rfl, (pb.disk (pa.disk Q2.out q3 (by decide)) y5' (by decide)).keepM hp (fun _ _ _ _ _ => shut_cells), IsLog.keep (G := { G with s := G.s ++ fr }) (pb.far y3' hgB) hp (fun _ _ => shut_cells), hk7 W' hp⟩
  case stop =>
    rintro Dd c' pre W hD' ⟨rfl, hi⟩ hK
    obtain ⟨q1, q2, q3, q5, q6, q7⟩ := hi
    gi_wp2
    have hk7 : ∀ W', Keep (shut Dd) W W' → Keep (mods logT) w W' := fun W' hp => ⟨hp.os.trans q6.os, hp.tape.trans q6.tape, hp.output.trans q6.output, Nat.le_trans q6.size hp.size, fun k o hk' hn => hp.block _ _ (q6.block k o hk' hn) (fun e => by have := heap_lt hk'; have := e.1; omega)⟩
    refine app_leaveM (bx := w.heap.size + 1) (Dd := Dd) rfl rfl rfl q5 hK (fun W' hp => ?_)
    have hR : appR D G n fr = ((writesK D (shiftL G.frm (diffs (laidB G.s) (laidB (G.s ++ fr)) n))).1, { G with broken := true }, (writesK D (shiftL G.frm (diffs (laidB G.s) (laidB (G.s ++ fr)) n))).2) := if_pos q1
    rw [hR]
    exact ⟨rfl, q2.keepM hp (fun _ _ _ _ _ => shut_cells), q3.keep hp (fun _ _ => shut_cells), hk7 W' hp⟩
theorem frame1_len (t : Bs) : (frame1 t).1.length ≤ t.length + 8 := by
  unfold frame1
  split
  · show (frameOf t).length ≤ _
    simp [frameOf, headOf, length_fourL]; omega
  · exact Nat.zero_le _
/-- Append to any log -/
theorem append_log (w : World) (g : Nat) (G : LG) (D : DK) (h : IsLog w g G) (hD : IsDisk w G.b D) (t : Bs) (n : Nat) (hn : G.n = n) (hn2 : n ≤ 1000000) (hs : G.s.length ≤ 1000000000) (ht : t.length ≤ 1000000000) (hf0 : 0 ≤ G.frm ∧ G.frm ≤ 1000000) (hL : D.L.length ≤ 1000000) (hfg : Floor.b ≤ g) :
    Calls Try.prog 8 #[.pointer (some ⟨g, 0, none⟩), .string ⟨t.toArray⟩] w fun e w' => appP w g (appendW D G n t) e w' := by
  cases hbr : G.broken with
  | true =>
    have e : appendW D G n t = (D, G, 3) := by unfold appendW; rw [if_pos hbr]
    rw [e]
    exact append_broken w g G D h hD t hbr
  | false =>
    by_cases her : (frame1 t).2 = 0
    · by_cases hfull : (n : Int) * 255 - G.s.length < (frame1 t).1.length
      · have e : appendW D G n t = (D, G, 6) := by unfold appendW; rw [if_neg (by rw [hbr]; simp), if_neg (by rw [her]; simp), if_pos hfull]
        rw [e]
        exact append_full w g G D h hD t n hn hn2 hs ht hbr her hfull (by have := frame1_len t; omega)
      · have e : appendW D G n t = appR D G n (frame1 t).1 := by unfold appendW; rw [if_neg (by rw [hbr]; simp), if_neg (by rw [her]; simp), if_neg hfull]; rfl
        rw [e]
        exact append_do w g G D h hD t n hn hn2 hs ht hbr her (by omega) hf0 hL hfg
    · have e : appendW D G n t = (D, G, (frame1 t).2) := by unfold appendW; rw [if_neg (by rw [hbr]; simp), if_pos her]
      rw [e]
      exact append_err w g G D h hD t ht hbr her
end Go.Proofs.Ytimfgeklnlnniaa
