/- The log, part 10: Append, where it writes nothing. -/
import Derived.Test.YtimfgeklnlnniaaWal9
namespace Go.Proofs.Ytimfgeklnlnniaa
set_option linter.unusedVariables false
set_option linter.unusedSimpArgs false
open Go.RowKit Go.Shelf
set_option linter.unusedSectionVars false
variable [Floor]
attribute [local go_sem] Oper.semAt_some ba_append
set_option maxRecDepth 100000 in
set_option maxHeartbeats 1000000 in
theorem append_err (w : World) (g : Nat) (G : LG) (D : DK) (h : IsLog w g G) (hD : IsDisk w G.b D) (t : Bs) (ht : t.length ≤ 1000000000) (hbr : G.broken = false) (her : (frame1 t).2 ≠ 0) :
    Calls Try.prog 8 #[.pointer (some ⟨g, 0, none⟩), .string ⟨t.toArray⟩] w fun e w' => appP w g (D, G, (frame1 t).2) e w' := by
  have H := Lib.hid (fun W h => lnone_log W g G h)
  have HF := Lib.hid (fun W => frame_c W t (by omega))
  have hW : ∀ v o, IsLog ((w.alloc v).alloc o) g G := fun v o => heap_old (heap_old h _) _
  have hc := fun v o => (hW v o).c4
  rw [hbr] at hc
  have HW := Lib.hid hW
  clear hW h
  generalize (frame1 t).2 = er at *
  generalize (frame1 t).1 = fr at *
  have hne : (er != 0) = true := by simpa using her
  refine (callsIn_wide (n := 5)).1 ?_
  refine callsIn_of_wp_marks Try.func8 rfl trivial ?_
  simp only [Try.ntmps8, List.size_toArray, List.length_cons, List.length_nil, Nat.reduceAdd, Nat.reduceSub, Array.replicate_succ, Array.replicate_zero, List.push_toArray, List.append_toArray, List.nil_append, List.cons_append]
  gi_wp2_with fail
  refine ⟨trivial, ?_⟩
  refine (callsIn_wide.2 (H.out _ (HW.out _ _))).mono ?_
  rintro e w' ⟨rfl, rfl⟩
  have z1 : ((w.alloc (.cells #[.pointer (some ⟨g, 0, none⟩)] 23)).alloc (.cells #[.int .i64 0] 25)).heap[w.heap.size + 1]? = some (.cells #[.int .i64 0] 25 (0, 0)) := heap_new_at (by simp) _
  have hk0 : Keep nomod w ((w.alloc (.cells #[.pointer (some ⟨g, 0, none⟩)] 23)).alloc (.cells #[.int .i64 0] 25)) := ((Keep.refl nomod _).alloc _).alloc _
  have hl0 := HW.out (.cells #[.pointer (some ⟨g, 0, none⟩)] 23) (.cells #[.int .i64 0] 25)
  have z0 : ((w.alloc (.cells #[.pointer (some ⟨g, 0, none⟩)] 23)).alloc (.cells #[.int .i64 0] 25)).heap[w.heap.size]? = some (.cells #[.pointer (some ⟨g, 0, none⟩)] 23 (0, 0)) := heap_old (heap_new _ _) _
  have c0 := cell_at (i := 0) z0 rfl
  have c4 := hl0.c4
  rw [hbr] at c4
  clear hc
  generalize (w.alloc (.cells #[.pointer (some ⟨g, 0, none⟩)] 23)).alloc (.cells #[.int .i64 0] 25) = W0 at *
  gi_wp2_with fail
  refine ⟨trivial, ?_⟩
  refine (callsIn_wide.2 (HF.out _)).mono ?_
  rintro e w1 ⟨rfl, hk1⟩
  have y1 := hk1.block _ _ z1 (fun e => e)
  have c1 := cell_at (i := 0) y1 rfl
  have f1 := frozen_at y1 0
  clear c0 c4
  gi_wp2
  have p : Put w1 (w1.setCell ⟨w.heap.size + 1, 0, none⟩ (.int .i64 er)) (w.heap.size + 1) 0 (.int .i64 er) := rfl
  generalize w1.setCell ⟨w.heap.size + 1, 0, none⟩ (.int .i64 er) = w2 at *
  have hk2 : Keep nomod w w2 := p.keepNew (hk0.trans hk1) (by omega)
  exact app_leave (bx := w.heap.size + 1) rfl rfl rfl (p.same1 y1) ⟨rfl, hD.keepM hk2 (fun _ _ _ _ _ e => e), p.far (hl0.keep hk1 (fun _ _ e => e)) (fun e => by rw [e] at hl0; unfold IsLog at hl0; rw [z1] at hl0; cases hl0), hk2.of_nomod⟩
set_option maxRecDepth 100000 in
set_option maxHeartbeats 1000000 in
theorem append_full (w : World) (g : Nat) (G : LG) (D : DK) (h : IsLog w g G) (hD : IsDisk w G.b D) (t : Bs) (n : Nat) (hn : G.n = n) (hn2 : n ≤ 1000000) (hs : G.s.length ≤ 1000000000) (ht : t.length ≤ 1000000000) (hbr : G.broken = false) (her : (frame1 t).2 = 0)
    (hfull : (n : Int) * 255 - G.s.length < (frame1 t).1.length) (hfl : (frame1 t).1.length ≤ 2000000000) :
    Calls Try.prog 8 #[.pointer (some ⟨g, 0, none⟩), .string ⟨t.toArray⟩] w fun e w' => appP w g (D, G, 6) e w' := by
  have H := Lib.hid (fun W h => lnone_log W g G h)
  have HF := Lib.hid (fun W => frame_c W t (by omega))
  have HR := Lib.hid (fun W h => room_log W g G h (by omega) (by omega) hs)
  rw [hn] at HR
  have hW : ∀ v o, IsLog ((w.alloc v).alloc o) g G := fun v o => heap_old (heap_old h _) _
  have hc := fun v o => (hW v o).c4
  rw [hbr] at hc
  have HW := Lib.hid hW
  clear hW h
  rw [her] at HF
  clear her
  generalize (frame1 t).1 = fr at *
  refine (callsIn_wide (n := 5)).1 ?_
  refine callsIn_of_wp_marks Try.func8 rfl trivial ?_
  simp only [Try.ntmps8, List.size_toArray, List.length_cons, List.length_nil, Nat.reduceAdd, Nat.reduceSub, Array.replicate_succ, Array.replicate_zero, List.push_toArray, List.append_toArray, List.nil_append, List.cons_append]
  gi_wp2_with fail
  refine ⟨trivial, ?_⟩
  refine (callsIn_wide.2 (H.out _ (HW.out _ _))).mono ?_
  rintro e w' ⟨rfl, rfl⟩
  have z1 : ((w.alloc (.cells #[.pointer (some ⟨g, 0, none⟩)] 23)).alloc (.cells #[.int .i64 0] 25)).heap[w.heap.size + 1]? = some (.cells #[.int .i64 0] 25 (0, 0)) := heap_new_at (by simp) _
  have hk0 : Keep nomod w ((w.alloc (.cells #[.pointer (some ⟨g, 0, none⟩)] 23)).alloc (.cells #[.int .i64 0] 25)) := ((Keep.refl nomod _).alloc _).alloc _
  have hl0 := HW.out (.cells #[.pointer (some ⟨g, 0, none⟩)] 23) (.cells #[.int .i64 0] 25)
  have z0 : ((w.alloc (.cells #[.pointer (some ⟨g, 0, none⟩)] 23)).alloc (.cells #[.int .i64 0] 25)).heap[w.heap.size]? = some (.cells #[.pointer (some ⟨g, 0, none⟩)] 23 (0, 0)) := heap_old (heap_new _ _) _
  have c0 := cell_at (i := 0) z0 rfl
  have c4 := hl0.c4
  rw [hbr] at c4
  clear hc
  generalize (w.alloc (.cells #[.pointer (some ⟨g, 0, none⟩)] 23)).alloc (.cells #[.int .i64 0] 25) = W0 at *
  gi_wp2_with fail
  refine ⟨trivial, ?_⟩
  refine (callsIn_wide.2 (HF.out _)).mono ?_
  rintro e w1 ⟨rfl, hk1⟩
  have y1 := hk1.block _ _ z1 (fun e => e)
  have y0 := hk1.block _ _ z0 (fun e => e)
  have hl1 := hl0.keep hk1 (fun _ _ e => e)
  have c1 := cell_at (i := 0) y0 rfl
  clear c0 c4
  gi_wp2_with fail
  refine ⟨trivial, ?_⟩
  refine (callsIn_wide.2 (HR.out _ hl1)).mono ?_
  rintro e w2 ⟨rfl, hk2⟩
  have x1 := hk2.block _ _ y1 (fun e => e)
  have c2 := cell_at (i := 0) x1 rfl
  have f2 := frozen_at x1 0
  clear c1
  have hgt : (n : Int) * 255 - (G.s.length : Int) < (fr.length : Int) := hfull
  generalize (n : Int) * 255 - (G.s.length : Int) = room at *
  gi_wp2
  have p : Put w2 (w2.setCell ⟨w.heap.size + 1, 0, none⟩ (.int .i64 6)) (w.heap.size + 1) 0 (.int .i64 6) := rfl
  generalize w2.setCell ⟨w.heap.size + 1, 0, none⟩ (.int .i64 6) = w3 at *
  have hk3 : Keep nomod w w3 := p.keepNew ((hk0.trans hk1).trans hk2) (by omega)
  exact app_leave (bx := w.heap.size + 1) rfl rfl rfl (p.same1 x1) ⟨rfl, hD.keepM hk3 (fun _ _ _ _ _ e => e), p.far (hl1.keep hk2 (fun _ _ e => e)) (fun e => by rw [e] at hl0; unfold IsLog at hl0; rw [z1] at hl0; cases hl0), hk3.of_nomod⟩
end Go.Proofs.Ytimfgeklnlnniaa
