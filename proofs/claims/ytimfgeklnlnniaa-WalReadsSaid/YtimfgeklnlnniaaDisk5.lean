/- A disk of blocks, part 5: Sync. -/
import Derived.Test.YtimfgeklnlnniaaDisk4
namespace Go.Proofs.Ytimfgeklnlnniaa
set_option linter.unusedVariables false
set_option linter.unusedSimpArgs false
open Go.RowKit Go.Lib
set_option linter.unusedSectionVars false
variable [Floor]
theorem read_disk (w : World) (b : Nat) (D : DK) (h : IsDisk w b D) (i : Int) (hmax : D.L.length ≤ 9223372036854775807) :
    Calls Try.prog 24 #[.pointer (some ⟨b, 0, none⟩), .int .i64 i] w fun e w' => e = .returned (.tuple #[.string ⟨(D.read i).1.toArray⟩, .int .i64 (D.read i).2]) ∧ Keep nomod w w' := by
  by_cases ht : thereB D i = 0
  · obtain ⟨h1, h2, h3⟩ := there_zero ht
    obtain ⟨n, rfl⟩ := Int.eq_ofNat_of_zero_le h2
    have e : D.read n = ((lastOf D.L n).getD (D.S.getD n []), 0) := by simp [DK.read, ht]
    rw [e]
    exact read_yes w b D h n (by omega) h1 hmax
  · have e : D.read i = ([], thereB D i) := by simp [DK.read, ht]
    rw [e]
    refine (read_no w b D h i ht).mono ?_
    rintro e w' ⟨rfl, rfl⟩
    exact ⟨rfl, Keep.refl _ _⟩
/-- loose writes laid onto blocks -/
def syncS (S : List Bs) (L : List (Nat × Bs)) : List Bs := L.foldl (fun S x => S.set x.1 x.2) S
theorem syncS_snoc (S : List Bs) (L : List (Nat × Bs)) (x : Nat × Bs) : syncS S (L ++ [x]) = (syncS S L).set x.1 x.2 := by simp [syncS]
theorem length_syncS (S : List Bs) (L : List (Nat × Bs)) : (syncS S L).length = S.length := by
  induction L generalizing S with
  | nil => rfl
  | cons x r ih => exact (ih _).trans (by simp)
theorem lens_syncS (S : List Bs) (L : List (Nat × Bs)) (hS : ∀ x ∈ S, x.length = 256) (hL : ∀ x ∈ L, x.2.length = 256) : ∀ x ∈ syncS S L, x.length = 256 := by
  induction L generalizing S with
  | nil => exact hS
  | cons y r ih =>
    refine ih _ (fun x hx => ?_) (fun x hx => hL x (List.mem_cons_of_mem _ hx))
    rcases List.mem_or_eq_of_mem_set hx with hx | rfl
    · exact hS x hx
    · exact hL y (List.mem_cons_self ..)
theorem flat_set (S : List Bs) (hS : ∀ x ∈ S, x.length = 256) (i : Nat) (y : Bs) (hi : i < S.length) (hy : y.length = 256) : spl (flatS S) (i * 256) (cellsOf y) = flatS (S.set i y) := by
  have hl : ∀ T : List Bs, (∀ x ∈ T, x.length = 256) → (flatS T).length = T.length * 256 := fun T hT => length_flat cellsOf 256 T (fun x hx => by rw [length_cellsOf, hT x hx])
  have e1 : S = S.take i ++ S[i] :: S.drop (i + 1) := by rw [← List.drop_eq_getElem_cons hi, List.take_append_drop]
  have e2 : S.set i y = S.take i ++ y :: S.drop (i + 1) := by rw [List.set_eq_take_append_cons_drop, if_pos hi]
  have hT : ∀ x ∈ S.take i, x.length = 256 := fun x hx => hS x (List.mem_of_mem_take hx)
  have hlt : (flatS (S.take i)).length = i * 256 := by rw [hl _ hT, List.length_take]; congr 1; omega
  have f1 : flatS S = flatS (S.take i) ++ (cellsOf S[i] ++ flatS (S.drop (i + 1))) := by
    conv => lhs; rw [e1]
    unfold flatS
    rw [List.flatMap_append, List.flatMap_cons]
  have f2 : flatS (S.set i y) = flatS (S.take i) ++ (cellsOf y ++ flatS (S.drop (i + 1))) := by rw [e2]; simp [flatS]
  have h1 : (cellsOf S[i]).length = 256 := by rw [length_cellsOf]; exact hS _ (List.getElem_mem hi)
  rw [f2, spl, f1, List.take_left' hlt, List.drop_append, List.drop_eq_nil_of_le (by rw [hlt]; omega), hlt, length_cellsOf, hy]
  have : i * 256 + 256 - i * 256 = 256 := by omega
  rw [this, List.drop_left' h1]
  simp
def DK.sync (D : DK) : DK := { D.tick with S := syncS D.S D.L, L := [] }
theorem run_load_elem (w : World) (g o : Nat) (cs : List Value) (t : TypeId) (fr : Nat × Nat) (i : Int) (x : Bs) (hx : x.length = 256) (h : w.heap[g]? = some (.cells cs.toArray t fr)) (hv : ∀ j, j < 257 → cs[o + j]? = (wrL i x)[j]?) :
    (Instr.loadAt 82 (.pointer (some ⟨g, o, none⟩))).run Try.prog w = .ok (.agg (wrC i x)) w :=
  run_loadAt_row 82 _ (wrL i x) (cs := cs) h (fun j hj => hv j (by rw [length_wrL, hx] at hj; exact hj)) Try.underlying82 rfl (by rw [size_write, length_wrL, hx])
theorem run_alloc_write (w : World) (o : Value) : (Instr.alloc 82 true o).run Try.prog w = .ok (.pointer (some ⟨w.heap.size, 0, none⟩)) (w.alloc (.cells (wrC 0 (zbs 256)) 82)) := by
  rw [← zero_write]
  simp [Instr.alloc, go_sem, newVar, newRow, Value.cells]
theorem run_store_elem (w : World) (i j : Int) (x y : Bs) (hx : x.length = 256) (hy : y.length = 256) :
    (Instr.storeAt 82 (.pointer (some ⟨w.heap.size, 0, none⟩)) (.agg (wrC j y))).run Try.prog (w.alloc (.cells (wrC i x) 82)) = .ok () (w.alloc (.cells (wrC j y) 82)) :=
  run_storeAt_new w _ _ _ (by rw [size_write]; simp [wrC, length_wrL, hy]) (by simp [wrC, length_wrL, hx, hy]) (all_oneCell_toArray (wrL_one j y))
set_option maxRecDepth 100000 in
theorem sync_no (w : World) (b : Nat) (D : DK) (h : IsDisk w b D) (hd : D.down = true) :
    Calls Try.prog 13 #[.pointer (some ⟨b, 0, none⟩)] w fun e w' => e = .returned (.int .i64 50) ∧ w = w' := by
  have hm := may_disk w b D h
  rw [show mayB D = 50 by simp [mayB, hd]] at hm
  have Hm := Lib.hid hm
  clear hm h hd
  go_enter Try.func13, Try.ntmps13
  go_wp2_with (go_at_call 35; refine Hm.out.mono ?_; rintro e w' ⟨rfl, rfl⟩)
  go_ret
  exact ⟨rfl, rfl⟩
/-- how a Sync ends -/
theorem sync_end (w w1 W : World) (b : Nat) (D : DK) (bs : Nat) (hfb : Floor.b ≤ b) (hfs : Floor.b ≤ bs) (lf : Int) (fl : Bool) (lv : Value) (hk1 : Keep (mods [78]) w w1) (hk : Keep (mods diskT) w1 W) (hok : D.tick.Ok)
    (hf : ∀ n, D.tick.fuse = some n → lf = (n : Int)) (hfl : D.tick.fuse.isSome = fl)
    (hb : W.heap[b]? = some (.cells #[.slice (some ⟨bs, 0, none⟩) D.S.length D.S.length, lv, .bool fl, .int .i64 lf] 78 (0, 0)))
    (hs : W.heap[bs]? = some (.cells (flatS (syncS D.S D.L)).toArray 80 (0, 0))) :
    IsDisk (W.setCell ⟨b, 1, none⟩ (.slice none 0 0)) b D.sync ∧ Keep (mods diskT) w (W.setCell ⟨b, 1, none⟩ (.slice none 0 0)) := by
  refine ⟨⟨⟨lens_syncS _ _ hok.len (fun x hx => (hok.lens x hx).2), (fun x hx => by cases hx), ?_, ?_, hok.fuse⟩, hfb, bs, .slice none 0 0, lf, ?_, hf, ?_, World.ownsRow_nil _ _ _ _, hfs⟩, ((hk1.mods_mono (by decide)).trans hk).setCell_mods hb (by decide) hfb _⟩
  · show 0 < (syncS D.S D.L).length
    rw [length_syncS]; exact hok.pos
  · show (syncS D.S D.L).length ≤ 4096
    rw [length_syncS]; exact hok.le
  · rw [heap_setCell_block hb]
    show _ = some (Obj.cells #[.slice (some ⟨bs, 0, none⟩) (syncS D.S D.L).length (syncS D.S D.L).length, .slice none 0 0, .bool D.tick.fuse.isSome, .int .i64 lf] _ _)
    rw [length_syncS, hfl]
    rfl
  · rw [heap_setCell_far _ (fun e => ?_)]
    · exact hs
    · have e' : bs = b := e
      rw [e', hb] at hs
      exact absurd (Obj.cells.inj (Option.some.inj hs)).2.1 (by decide)
set_option maxHeartbeats 1000000 in
set_option maxRecDepth 100000 in
theorem sync_yes (w : World) (b : Nat) (D : DK) (h : IsDisk w b D) (hd : D.down = false) (hmax : D.L.length ≤ 1000000000000) :
    Calls Try.prog 13 #[.pointer (some ⟨b, 0, none⟩)] w fun e w' => e = .returned (.int .i64 0) ∧ IsDisk w' b D.sync ∧ Keep (mods diskT) w w' := by
  have hm := may_disk w b D h
  rw [show mayB D = 0 by simp [mayB, hd]] at hm
  have Hm := Lib.hid hm
  have Hdn := Lib.hid (done_disk w b D h hd)
  clear hm h hd
  go_enter Try.func13, Try.ntmps13
  go_upto_region 5 with (first | (go_at_call 35; refine Hm.out.mono ?_; rintro e w' ⟨rfl, rfl⟩) | (go_at_call 36; refine Hdn.out.mono ?_; rintro e w1 ⟨rfl, h1, hk1⟩))
  obtain ⟨bs, lv, lf, hb, hf, hsu, hl, hbb⟩ := h1.lies
  have Hok := Lib.hid h1.ok
  have Hf := Lib.hid hf
  clear hf
  obtain ⟨fl, hfl⟩ : ∃ fl, D.tick.fuse.isSome = fl := ⟨_, rfl⟩
  rw [hfl] at hb
  have Hfl := Lib.hid hfl
  have hfb := h1.fl
  clear hfl h1
  change w1.heap[b]? = some (.cells #[.slice (some ⟨bs, 0, none⟩) D.S.length D.S.length, lv, .bool fl, .int .i64 lf] 78 (0, 0)) at hb
  change w1.heap[bs]? = some (.cells (flatS D.S).toArray 80 (0, 0)) at hsu
  change w1.ownsRow Floor.b 82 257 lv D.L.length (flatL D.L) at hl
  rcases ownsRow_slice hl with ⟨rfl, hn0⟩ | ⟨g, cap, cur, rfl, hg, hpre⟩
  · have c1 := cell_at hb (i := 1) rfl
    have f1 := frozen_at hb 1
    have Fin := Lib.hid (sync_end w w1 w1 b D bs hfb hbb lf fl (.slice none 0 0) hk1 (Keep.refl _ _) Hok.out Hf.out Hfl.out hb (by rw [List.eq_nil_of_length_eq_zero hn0]; exact hsu))
    clear hn0 hl
    go_wp2
    go_loopw [18] (fun v W => v = .int .i64 0 ∧ W = w1) (fun _ _ => 0)
    case atStart => exact ⟨rfl, rfl⟩
    case round =>
      obtain ⟨rfl, rfl⟩ := hrel
      go_wp2
      go_ret
      exact ⟨rfl, Fin.out⟩
  · have c1 := cell_at hb (i := 1) rfl
    have Hpre := Lib.hid hpre
    have Hmax : D.L.length ≤ 1000000000000 := hmax
    have HokL := Lib.hid (fun k y (hy : D.L[k]? = some y) => flat_at (fun x : Nat × Bs => Value.int .i64 (x.1 : Int) :: cellsOf x.2) 257 D.L Hok.out.lenL k y hy)
    clear hpre hl
    go_wp2
    go_loopw [18] (fun v W => ∃ k : Nat, k ≤ D.L.length ∧ v = .int .i64 (k : Int) ∧ Hid (W.heap[bs]? = some (.cells (flatS (syncS D.S (D.L.take k))).toArray 80 (0, 0))) ∧
        Hid (W.heap[b]? = some (.cells #[.slice (some ⟨bs, 0, none⟩) D.S.length D.S.length, .slice (some ⟨g, 0, none⟩) D.L.length cap, .bool fl, .int .i64 lf] 78 (0, 0))) ∧ Hid (W.heap[g]? = some (.cells cur.toArray 82 (0, 0))) ∧ Keep (mods diskT) w1 W)
      (fun v _ => D.L.length - (intOf v).toNat)
    case atStart => exact ⟨0, Nat.zero_le _, rfl, hsu, hb, hg, Keep.refl _ _⟩
    case round =>
      obtain ⟨k, hk, rfl, Hs, Hb, Hg, HK⟩ := hrel
      clear hsu hb hg c1
      by_cases hlt : k < D.L.length
      · obtain ⟨y, hy⟩ : ∃ y, D.L[k]? = some y := ⟨_, List.getElem?_eq_getElem hlt⟩
        have Hy := Lib.hid hy
        have hyS : y.1 < D.S.length := (Hok.out.lens y (List.mem_of_getElem? hy)).1
        have hy2 := (Hok.out.lens y (List.mem_of_getElem? hy)).2
        have Hy2 := Lib.hid hy2
        have Hld := Lib.hid (run_load_elem wr g (k * 257) cur _ _ y.1 y.2 hy2 Hg.out (fun j hj => by
          obtain ⟨c, h1⟩ : ∃ c, (wrL y.1 y.2)[j]? = some c := ⟨_, List.getElem?_eq_getElem (by rw [length_wrL, hy2]; exact hj)⟩
          rw [h1]
          exact prefix_at Hpre.out ((HokL.out k y hy j hj).trans h1)))
        clear hy hy2
        go_upto_region 7 with (fail)
        apply wp_region_lit
        refine ls_same (.pointer (some ⟨g, k * 257, none⟩)) rfl (by go_simp) ?_
        simp only [Act.put, List.setIfInBounds_toArray, List.set_cons_succ, List.set_cons_zero]
        refine ls_same (.agg (wrC y.1 y.2)) rfl (exec_v Hld.out) ?_
        simp only [Act.put, List.setIfInBounds_toArray, List.set_cons_succ, List.set_cons_zero]
        refine ls_val rfl (exec_v (run_alloc_write wr _)) ?_
        simp only [Act.put, List.setIfInBounds_toArray, List.set_cons_succ, List.set_cons_zero]
        refine ls_unit rfl (exec_u (run_store_elem wr 0 y.1 (zbs 256) y.2 (length_zbs 256) Hy2.out)) ?_
        simp only [Act.put, List.setIfInBounds_toArray, List.set_cons_succ, List.set_cons_zero]
        obtain ⟨W2, hW2⟩ : ∃ W2, wr.alloc (.cells (wrC y.1 y.2) 82) = W2 := ⟨_, rfl⟩
        have b2 := heap_old Hb.out (.cells (wrC y.1 y.2) 82)
        have s2 := heap_old Hs.out (.cells (wrC y.1 y.2) 82)
        have g2 := heap_old Hg.out (.cells (wrC y.1 y.2) 82)
        have n2 := heap_new wr (.cells (wrC y.1 y.2) 82)
        have k2 := HK.alloc (.cells (wrC y.1 y.2) 82)
        rw [hW2] at b2 s2 g2 n2 k2
        rw [hW2]
        obtain ⟨nb, hnb⟩ : ∃ nb, wr.heap.size = nb := ⟨_, rfl⟩
        rw [hnb] at n2
        rw [hnb]
        clear hW2 hnb Hld
        have Hlb := Lib.hid (fun (W : World) (hW : W.heap[nb]? = some (.cells (wrC y.1 y.2) 82 (0, 0))) => run_load_bytes W nb 1 (wrL y.1 y.2) _ _ y.2 Hy2.out hW (fun j hj => by rw [Nat.add_comm 1 j]; rfl))
        have hS : y.1 < (syncS D.S (D.L.take k)).length := by rw [length_syncS]; exact hyS
        have HS := Lib.hid hS
        apply wpList_nil
        go_wp2
        refine wp_region_moves (fun W => W.heap[b]? = some (.cells #[.slice (some ⟨bs, 0, none⟩) D.S.length D.S.length, .slice (some ⟨g, 0, none⟩) D.L.length cap, .bool fl, .int .i64 lf] 78 (0, 0)) ∧ W.heap[nb]? = some (.cells (wrC y.1 y.2) 82 (0, 0)))
          [(0, true), (1, true), (2, true), (3, true), (4, true), (5, true), (6, true), (7, true), (8, true), (9, false)] (by kernel_rfl) (by kernel_rfl) (by kernel_rfl) (fun _ _ _ _ _ h => h) ⟨b2, n2⟩ ?_
        simp only [movesOps, List.getElem?_toArray, List.getElem?_cons_zero, List.getElem?_cons_succ]
        refine mv_still (.pointer (some ⟨b, 0, none⟩)) rfl (fun W hS => by go_simp) ?_
        simp only [Act.put, List.setIfInBounds_toArray, List.set_cons_succ, List.set_cons_zero]
        refine mv_still (.pointer (some ⟨b, 0, none⟩)) rfl (fun W hS => by go_simp) ?_
        simp only [Act.put, List.setIfInBounds_toArray, List.set_cons_succ, List.set_cons_zero]
        refine mv_still (.pointer (some ⟨b, 0, none⟩)) rfl (fun W hS => by go_simp) ?_
        simp only [Act.put, List.setIfInBounds_toArray, List.set_cons_succ, List.set_cons_zero]
        refine mv_still (.slice (some ⟨bs, 0, none⟩) D.S.length D.S.length) rfl (fun W hS => by have d := cell_at hS.1 (i := 0) rfl; clear hS; go_simp) ?_
        simp only [Act.put, List.setIfInBounds_toArray, List.set_cons_succ, List.set_cons_zero]
        refine mv_still (.pointer (some ⟨nb, 0, none⟩)) rfl (fun W hS => by go_simp) ?_
        simp only [Act.put, List.setIfInBounds_toArray, List.set_cons_succ, List.set_cons_zero]
        refine mv_still (.int .i64 y.1) rfl (fun W hS => by have d := cell_at hS.2 (i := 0) rfl; clear hS; go_simp; rfl) ?_
        simp only [Act.put, List.setIfInBounds_toArray, List.set_cons_succ, List.set_cons_zero]
        refine mv_still (.pointer (some ⟨nb, 1, none⟩)) rfl (fun W hS => by go_simp) ?_
        simp only [Act.put, List.setIfInBounds_toArray, List.set_cons_succ, List.set_cons_zero]
        refine mv_still (.agg (cellsOf y.2).toArray) rfl (fun W hS => exec_v (Hlb.out W hS.2)) ?_
        simp only [Act.put, List.setIfInBounds_toArray, List.set_cons_succ, List.set_cons_zero]
        refine mv_still (.pointer (some ⟨bs, y.1 * 256, none⟩)) rfl (fun W hS => by clear hS; go_simp) ?_
        simp only [Act.put, List.setIfInBounds_toArray, List.set_cons_succ, List.set_cons_zero]
        have e1 := flat_set (syncS D.S (D.L.take k)) (lens_syncS _ _ Hok.out.len (fun x hx => (Hok.out.lens x (List.mem_of_mem_take hx)).2)) y.1 y.2 HS.out Hy2.out
        have hlen : (flatS (syncS D.S (D.L.take k))).length = D.S.length * 256 := by
          rw [← length_syncS D.S (D.L.take k)]
          exact length_flat cellsOf 256 _ (fun x hx => by rw [length_cellsOf]; exact lens_syncS _ _ Hok.out.len (fun x hx => (Hok.out.lens x (List.mem_of_mem_take hx)).2) x hx)
        have hst := run_storeAt_row (P := Try.prog) (w := W2.drew) (o := y.1 * 256) 80 (cellsOf y.2) s2 (by rw [hlen, length_cellsOf, Hy2.out]; omega) (by rw [size_bytes, length_cellsOf, Hy2.out]) (cellsOf_one y.2)
        rw [e1, ← syncS_snoc] at hst
        refine mv_last rfl (fun K hK => wp_unit (exec_u hst) (hK _ _ ?_))
        clear hK hst e1 hlen
        have e2 : D.L.take k ++ [y] = D.L.take (k + 1) := by rw [List.take_add_one, Hy.out]; rfl
        have Hs3 := Lib.hid (setRow_heap_at (w := W2.drew) s2 (flatS (syncS D.S (D.L.take k ++ [y]))).toArray)
        have hbs : bs ≠ b := fun e => by rw [e, b2] at s2; exact absurd (Obj.cells.inj (Option.some.inj s2)).2.1 (by decide)
        have hbg : bs ≠ g := fun e => by rw [e, g2] at s2; exact absurd (Obj.cells.inj (Option.some.inj s2)).2.1 (by decide)
        have Hb3 := Lib.hid ((setRow_other W2.drew bs b (flatS (syncS D.S (D.L.take k ++ [y]))).toArray hbs.symm).trans b2)
        have Hg3 := Lib.hid ((setRow_other W2.drew bs g (flatS (syncS D.S (D.L.take k ++ [y]))).toArray hbg.symm).trans g2)
        have k3 := (k2.drew).setRow_mods (g := bs) s2 (by decide) hbb (flatS (syncS D.S (D.L.take k ++ [y]))).toArray
        generalize W2.drew.setRow bs (flatS (syncS D.S (D.L.take k ++ [y]))).toArray = W3 at *
        rw [e2] at Hs3
        clear e2 hbs hbg b2 s2 g2 n2 k2 HS hS hyS
        go_wp2
        go_roundw
        case rel => exact ⟨k + 1, by omega, by go_num, Hs3, Hb3, Hg3, k3⟩
        case measure => simp [intOf]; omega
      · have hkk : k = D.L.length := by omega
        have hs := Hs.out
        rw [hkk, List.take_of_length_le (Nat.le_refl _)] at hs
        have Fin := Lib.hid (sync_end w w1 wr b D bs hfb hbb lf fl _ hk1 HK Hok.out Hf.out Hfl.out Hb.out hs)
        have hb := Hb.out
        have c1 := cell_at hb (i := 1) rfl
        have f1 := frozen_at hb 1
        clear hs hkk
        go_wp2
        go_ret
        exact ⟨rfl, Fin.out⟩
end Go.Proofs.Ytimfgeklnlnniaa
