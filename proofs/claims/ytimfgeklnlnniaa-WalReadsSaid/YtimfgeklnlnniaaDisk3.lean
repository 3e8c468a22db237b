/- A disk of blocks, part 3: Write. -/
import Derived.Test.YtimfgeklnlnniaaDisk2
import Derived.Test.YtimfgeklnlnniaaMoves
import Derived.Lib.BufferWrite
import Derived.Deep.RegionHeld3
import Derived.Deep.RegionHeldLaw
namespace Go.Proofs.Ytimfgeklnlnniaa
set_option linter.unusedVariables false
set_option linter.unusedSimpArgs false
open Go.RowKit Go.Lib
set_option linter.unusedSectionVars false
variable [Floor]
/-- the cells of a write -/
def wrL (i : Int) (l : Bs) : List Value := .int .i64 i :: cellsOf l
def wrC (i : Int) (l : Bs) : Array Value := (wrL i l).toArray
theorem length_wrL (i : Int) (l : Bs) : (wrL i l).length = l.length + 1 := by simp [wrL, length_cellsOf]
theorem wrL_one (i : Int) (l : Bs) : ∀ v ∈ wrL i l, v.oneCell' = true := by
  intro v hv
  rcases List.mem_cons.1 hv with rfl | hv
  · rfl
  · exact cellsOf_one l v hv
theorem diskDone_off (w : World) (b : Nat) (s l : Value) (k : Int) (hb : w.heap[b]? = some (.cells #[s, l, .bool false, .int .i64 k] 78 (0,0))) :
    Calls Try.prog 36 #[.pointer (some ⟨b, 0, none⟩)] w fun e w' => e = .returned (.tuple #[]) ∧ w = w' := by
  have c2 := cell_at hb (i := 2) rfl
  go_enter Try.func36, Try.ntmps36
  go_wp2
  go_end0
  exact ⟨rfl, rfl⟩
theorem diskDone_on (w : World) (b : Nat) (s l : Value) (k : Int) (hb : w.heap[b]? = some (.cells #[s, l, .bool true, .int .i64 k] 78 (0,0))) (h0 : 0 < k) (h1 : k ≤ 9223372036854775807) :
    Calls Try.prog 36 #[.pointer (some ⟨b, 0, none⟩)] w fun e w' => e = .returned (.tuple #[]) ∧ w' = w.setCell ⟨b, 3, none⟩ (.int .i64 (k - 1)) := by
  have c2 := cell_at hb (i := 2) rfl
  have c3 := cell_at hb (i := 3) rfl
  have f3 := frozen_at hb 3
  go_enter Try.func36, Try.ntmps36
  go_wp2
  go_end0
  exact ⟨rfl, rfl⟩
theorem zero_write : Try.zeroCells82 = wrC 0 (zbs 256) := by kernel_rfl
theorem size_write : (Try.prog.info? 82).map (·.size) = some 257 := by kernel_rfl
theorem set_write (i : Int) : Try.zeroCells82.toList.set 0 (.int .i64 i) = wrL i (zbs 256) := by rw [zero_write]; rfl
theorem run_store_write (w : World) (i : Int) :
    (storeCells ⟨w.heap.size, 0, none⟩ (Try.zeroCells82.toList.set 0 (.int .i64 i)) 0).run Try.prog (w.alloc (.cells Try.zeroCells82 82)) = .ok () (w.alloc (.cells (wrC i (zbs 256)) 82)) := by
  rw [set_write, zero_write]
  exact run_storeCells_new w 82 (wrC 0 (zbs 256)) (wrC i (zbs 256)) (by rw [size_write]; simp [wrC, length_wrL, length_zbs]) (by simp [wrC, length_wrL, length_zbs]) (all_oneCell_toArray (wrL_one i _))
/-- a call that was done is counted -/
def DK.tick (D : DK) : DK := { D with fuse := D.fuse.map (· - 1) }
theorem done_disk (w : World) (b : Nat) (D : DK) (h : IsDisk w b D) (hd : D.down = false) :
    Calls Try.prog 36 #[.pointer (some ⟨b, 0, none⟩)] w fun e w' => e = .returned (.tuple #[]) ∧ IsDisk w' b D.tick ∧ Keep (mods [78]) w w' := by
  obtain ⟨bs, lv, lf, hb, hf, hs, hl, hbb⟩ := h.lies
  cases hq : D.fuse with
  | none =>
    have ht : D.tick = D := by cases D; simp_all [DK.tick]
    rw [hq] at hb
    refine (diskDone_off w b _ _ lf hb).mono ?_
    rintro e w' ⟨rfl, rfl⟩
    exact ⟨rfl, by rw [ht]; exact h, Keep.refl _ _⟩
  | some n =>
    have e1 := hf n hq
    subst e1
    have hn : n ≠ 0 := by rintro rfl; simp [DK.down, hq] at hd
    have hn2 := h.ok.fuse n hq
    rw [hq] at hb
    refine (diskDone_on w b _ _ (n : Int) hb (by omega) (by omega)).mono ?_
    rintro e w' ⟨rfl, rfl⟩
    have hk : Keep (mods [78]) w (w.setCell ⟨b, 3, none⟩ (.int .i64 ((n : Int) - 1))) :=
      (Keep.refl _ w).setCell (p := ⟨b, 3, none⟩) (fun o ho => by rw [hb] at ho; cases ho; exact ⟨by simp [tagOf], h.fl⟩) _
    refine ⟨rfl, ⟨⟨h.ok.len, h.ok.lens, h.ok.pos, h.ok.le, fun m hm => ?_⟩, h.fl, bs, lv, (n : Int) - 1, ?_, fun m hm => ?_, hk.cells hs (by decide), ownsRow_mods hl hk (by decide), hbb⟩, hk⟩
    · simp [DK.tick, hq] at hm; omega
    · rw [heap_setCell_block hb]; simp [DK.tick, hq]
    · simp [DK.tick, hq] at hm; omega
theorem spl_copy (i : Int) (s : Bs) (hs : s.length = 256) : ((wrL i (zbs 256)).take 1 ++ byteCells s ++ (wrL i (zbs 256)).drop (1 + 256)) = wrL i s := by
  have h : (wrL i (zbs 256)).drop (1 + 256) = [] := List.drop_eq_nil_of_le (by rw [length_wrL, length_zbs]; omega)
  rw [h, List.append_nil]
  rfl
theorem run_copy_write (w : World) (i : Int) (s : Bs) (hs : s.length = 256) :
    (Builtin.copy_ #[83, 9] 3 #[.slice (some ⟨w.heap.size, 1, none⟩) 256 256, .string ⟨s.toArray⟩]).run Try.prog (w.alloc (.cells (wrC i (zbs 256)) 82)) =
      .ok (.int .i64 256) (w.alloc (.cells (wrC i s) 82)) := by
  have hsz : (⟨s.toArray⟩ : ByteArray).size = 256 := by show s.toArray.size = 256; simpa using hs
  have h := run_copy_row_string (P := Try.prog) (w.alloc (.cells (wrC i (zbs 256)) 82)) 83 9 3 5 w.heap.size 1 256 256 ⟨s.toArray⟩ (wrC i (zbs 256)) 82
    Try.underlying83 (by kernel_rfl) (heap_new w _) (by rw [hsz]; exact Nat.le_refl _) (by rw [hsz]; simp [wrC, length_wrL, length_zbs])
  rw [hsz] at h
  rw [h, World.setRow_alloc_new]
  have e : (wrC i (zbs 256)).toList.take 1 ++ byteCells (⟨s.toArray⟩ : ByteArray).data.toList ++ (wrC i (zbs 256)).toList.drop (1 + 256) = wrL i s := spl_copy i s hs
  rw [e]
  rfl
theorem run_load_write (w : World) (g : Nat) (i : Int) (s : Bs) (hs : s.length = 256) (h : w.heap[g]? = some (.cells (wrC i s) 82 (0, 0))) :
    (Instr.loadAt 82 (.pointer (some ⟨g, 0, none⟩))).run Try.prog w = .ok (.agg (wrC i s)) w :=
  run_loadAt_row 82 _ (wrL i s) (cs := wrL i s) h (fun j _ => by rw [Nat.zero_add]) Try.underlying82 rfl (by rw [size_write, length_wrL, hs])
theorem info_write_all : ∃ i0, Try.prog.info? 82 = some i0 ∧ i0.zero = some (.agg (wrC 0 (zbs 256))) ∧ i0.size = 257 ∧ i0.bytes = 264 := by
  have h := info_write
  have hz := info_write_zero
  cases hi : Try.prog.info? 82 with
  | none => rw [hi] at h; cases h
  | some i0 =>
    rw [hi] at h hz
    have h' := Option.some.inj h
    refine ⟨i0, rfl, ?_, congrArg Prod.fst h', congrArg Prod.snd h'⟩
    rw [wrC, wrL, cells_zbs]
    exact Option.some.inj hz
theorem run_slice_write (w : World) (i : Int) (s : Bs) (hs : s.length = 256) :
    (Instr.buildSlice 76 1 #[(0, .agg (wrC i s))]).run Try.prog w = .ok (.slice (some ⟨w.heap.size, 0, none⟩) 1 1) (w.alloc (.cells (wrC i s) 82)) := by
  obtain ⟨i0, hi, hz, h1, _⟩ := info_write_all
  exact run_buildSlice_one 76 82 i0 _ Try.underlying76 hi hz (wrL i s) (by rw [h1, length_wrL, hs]) (by rw [length_wrL]; omega) (by rw [length_wrL]; omega) w
def DK.wrote (D : DK) (i : Nat) (s : Bs) : DK := { D.tick with L := D.L ++ [(i, s)] }
set_option maxRecDepth 100000 in
set_option maxHeartbeats 800000 in
theorem write_yes (w : World) (b : Nat) (D : DK) (h : IsDisk w b D) (i : Nat) (s : Bs) (hi : i < D.S.length) (hs : s.length = 256) (hd : D.down = false) (hL : D.L.length ≤ 1000000000) :
    Calls Try.prog 33 #[.pointer (some ⟨b, 0, none⟩), .int .i64 i, .string ⟨s.toArray⟩] w fun e w' => e = .returned (.int .i64 0) ∧ IsDisk w' b (D.wrote i s) ∧ Keep (mods diskT) w w' := by
  have hth := there_disk w b D h i
  have h0 : thereB D i = 0 := by simp [thereB, hd, hi]
  rw [h0] at hth
  have Hth := Lib.hid hth
  clear hth h0
  have hsz : ((s.length : Int) != 256) = false := by simp [hs]
  have hst := fun W => run_store_write W i
  have hcp := fun W => run_copy_write W i s hs
  have hlo := fun W g => run_load_write W g i s hs
  have Hdn := Lib.hid (done_disk w b D h hd)
  clear h hd
  have HS := Lib.hid hs
  clear hs
  go_enter Try.func33, Try.ntmps33
  go_wp2_with (first | (go_at_call 49; refine Hth.out.mono ?_; rintro e w' ⟨rfl, rfl⟩) | (go_at_call 36; refine Hdn.out.mono ?_; rintro e w1 ⟨rfl, h1, hk1⟩))
  clear hst hcp
  obtain ⟨bs, lv, lf, hb, hf, hsu, hl, hbb⟩ := h1.lies
  have c1 := heap_old hb (.cells (wrC i s) 82)
  have d1 := cell_at c1 (i := 1) rfl
  have f1 := frozen_at c1 1
  have hn := heap_new w1 (.cells (wrC i s) 82)
  have Hf := Lib.hid hf
  clear hf
  refine wp_region_moves (fun w' => w'.heap[b]? = some (.cells #[.slice (some ⟨bs, 0, none⟩) D.tick.S.length D.tick.S.length, lv, .bool D.tick.fuse.isSome, .int .i64 lf] 78 (0, 0)) ∧ w'.heap[w1.heap.size]? = some (.cells (wrC i s) 82 (0, 0)))
    [(0, true), (1, true), (2, true), (3, true), (4, true), (5, true), (6, false), (7, false), (8, true), (9, true), (10, false)] (by kernel_rfl) (by kernel_rfl) (by kernel_rfl) (fun _ _ _ _ _ h => h) ⟨c1, hn⟩ ?_
  simp only [movesOps, List.getElem?_toArray, List.getElem?_cons_zero, List.getElem?_cons_succ]
  refine mv_still (.pointer (some ⟨b, 0, none⟩)) rfl (fun W hS => by go_simp) ?_
  simp only [Act.put, List.setIfInBounds_toArray, List.set_cons_succ, List.set_cons_zero]
  refine mv_still (.pointer (some ⟨b, 0, none⟩)) rfl (fun W hS => by go_simp) ?_
  simp only [Act.put, List.setIfInBounds_toArray, List.set_cons_succ, List.set_cons_zero]
  refine mv_still (.pointer (some ⟨b, 0, none⟩)) rfl (fun W hS => by go_simp) ?_
  simp only [Act.put, List.setIfInBounds_toArray, List.set_cons_succ, List.set_cons_zero]
  refine mv_still (.pointer (some ⟨b, 1, none⟩)) rfl (fun W hS => by go_simp) ?_
  simp only [Act.put, List.setIfInBounds_toArray, List.set_cons_succ, List.set_cons_zero]
  refine mv_still lv rfl (fun W hS => by have d := cell_at hS.1 (i := 1) rfl; go_simp) ?_
  simp only [Act.put, List.setIfInBounds_toArray, List.set_cons_succ, List.set_cons_zero]
  refine mv_still (.agg (wrC i s)) rfl (fun W hS => exec_v (hlo W _ hS.2)) ?_
  simp only [Act.put, List.setIfInBounds_toArray, List.set_cons_succ, List.set_cons_zero]
  refine mv_run rfl (fun K hK => wp_value (exec_buildSlice1 rfl rfl (run_slice_write _ i s HS.out)) (hK _ _ ⟨heap_old c1 _, heap_old hn _⟩ ?_))
  simp only [Act.put, List.setIfInBounds_toArray, List.set_cons_succ, List.set_cons_zero]
  obtain ⟨W2, hW2⟩ : ∃ W2, (w1.alloc (.cells (wrC i s) 82)).drew.alloc (.cells (wrC i s) 82) = W2 := ⟨_, rfl⟩
  have k2 : Keep (mods diskT) w W2 := by rw [← hW2]; exact (((hk1.mods_mono (by decide)).alloc _).drew).alloc _
  have c2 := heap_old (w := (w1.alloc (.cells (wrC i s) 82)).drew) c1 (.cells (wrC i s) 82)
  have n2 := heap_old (w := (w1.alloc (.cells (wrC i s) 82)).drew) hn (.cells (wrC i s) 82)
  have m2 := heap_new (w1.alloc (.cells (wrC i s) 82)).drew (.cells (wrC i s) 82)
  have l2 := World.ownsRow.alloc (w := (w1.alloc (.cells (wrC i s) 82)).drew) (hl.alloc _) (.cells (wrC i s) 82)
  have s2 := heap_old (w := (w1.alloc (.cells (wrC i s) 82)).drew) (heap_old hsu _) (.cells (wrC i s) 82)
  rw [hW2] at c2 n2 m2 l2 s2
  rw [hW2]
  obtain ⟨i0, hi0, hz0, hs0, hb0⟩ := info_write_all
  have hne : some w1.heap.size ≠ lv.ownBlock := fun e => by have := (hl.lt _ e.symm).2; omega
  refine mv_run rfl (fun K hK => wp_append_lies _ (.tmp 30) (.tmp 32) 76 rfl Floor.b 82 i0 _ 257 264 Try.underlying76 hi0 hz0 hs0 hb0 (by simp [Value.cells, wrC, length_wrL, length_zbs]) (by decide)
    lv D.L.length (flatL D.L) rfl l2 ⟨(w1.alloc (.cells (wrC i s) 82)).drew.heap.size, 0, none⟩ 1 1 (wrL i s) rfl (by rw [length_wrL, HS.out]) (World.news_of_block m2) (wrL_one _ _) (by decide) (by unfold maxLen; omega) (by omega) (Nat.le_trans h1.fl (Nat.le_of_lt (heap_lt c2))) _ rfl ?_)
  intro g cap w3 hown hgrow hat hlt
  have c3 := grown_cells l2 hgrow c2 (by decide)
  have n3 := grown_cells_ne hgrow n2 hne
  have s3 := grown_cells l2 hgrow s2 (by decide)
  have k3 := k2.grown_own l2 (by decide) (Nat.le_refl _) hgrow
  refine hK _ _ ⟨c3, n3⟩ ?_
  simp only [Act.put, List.setIfInBounds_toArray, List.set_cons_succ, List.set_cons_zero]
  refine mv_still (.pointer (some ⟨b, 0, none⟩)) rfl (fun W hS => by go_simp) ?_
  simp only [Act.put, List.setIfInBounds_toArray, List.set_cons_succ, List.set_cons_zero]
  refine mv_still (.pointer (some ⟨b, 1, none⟩)) rfl (fun W hS => by go_simp) ?_
  simp only [Act.put, List.setIfInBounds_toArray, List.set_cons_succ, List.set_cons_zero]
  have fin : IsDisk (w3.setCell ⟨b, 1, none⟩ (.slice (some ⟨g, 0, none⟩) (D.L.length + 1) cap)) b (D.wrote i s) ∧ Keep (mods diskT) w (w3.setCell ⟨b, 1, none⟩ (.slice (some ⟨g, 0, none⟩) (D.L.length + 1) cap)) := by
    have hok := h1.ok
    have e1 : flatL (D.L ++ [(i, s)]) = flatL D.L ++ wrL i s := by simp only [flatL, List.flatMap_append, List.flatMap_cons, List.flatMap_nil, List.append_nil]; rfl
    refine ⟨⟨⟨hok.len, ?_, hok.pos, hok.le, hok.fuse⟩, h1.fl, bs, .slice (some ⟨g, 0, none⟩) (D.L.length + 1) cap, lf, ?_, Hf.out, ?_, ?_, hbb⟩, k3.setCell_mods c3 (by decide) h1.fl _⟩
    · intro x hx
      rcases List.mem_append.1 hx with hx | hx
      · exact hok.lens x hx
      · obtain rfl : x = (i, s) := by simpa using hx
        exact ⟨hi, HS.out⟩
    · rw [heap_setCell_block c3]; rfl
    · rw [heap_setCell_far _ (fun e => ?_)]
      · exact s3
      · have e' : bs = b := e
        rw [e', c3] at s3
        exact absurd (Obj.cells.inj (Option.some.inj s3)).2.1 (by decide)
    · have := ownsRow_setCell hown (p := ⟨b, 1, none⟩) c3 (by decide) (.slice (some ⟨g, 0, none⟩) (D.L.length + 1) cap)
      show World.ownsRow _ Floor.b _ 257 _ (D.L ++ [(i, s)]).length (flatL (D.L ++ [(i, s)]))
      rw [e1, List.length_append]
      exact this
  have Fin := Lib.hid fin
  have d3 := cell_at c3 (i := 1) rfl
  have f3 := frozen_at c3 1
  clear fin
  refine mv_last rfl (fun K hK => ?_)
  go_simp
  refine hK _ _ ?_
  clear hK
  go_wp2
  go_ret
  exact ⟨rfl, Fin.out⟩
end Go.Proofs.Ytimfgeklnlnniaa
