/- A disk of blocks, part 6: Crash. -/
import Derived.Test.YtimfgeklnlnniaaDisk5
namespace Go.Proofs.Ytimfgeklnlnniaa
set_option linter.unusedVariables false
set_option linter.unusedSimpArgs false
open Go.RowKit Go.Lib
set_option linter.unusedSectionVars false
variable [Floor]
theorem sync_disk (w : World) (b : Nat) (D : DK) (h : IsDisk w b D) (hmax : D.L.length ≤ 1000000000000) :
    Calls Try.prog 13 #[.pointer (some ⟨b, 0, none⟩)] w fun e w' => e = .returned (.int .i64 (mayB D)) ∧ IsDisk w' b (if D.down then D else D.sync) ∧ Keep (mods diskT) w w' := by
  cases hd : D.down with
  | true =>
    refine (sync_no w b D h hd).mono ?_
    rintro e w' ⟨rfl, rfl⟩
    exact ⟨by simp [mayB, hd], by simpa using h, Keep.refl _ _⟩
  | false =>
    refine (sync_yes w b D h hd hmax).mono ?_
    rintro e w' ⟨rfl, h1, h2⟩
    exact ⟨by simp [mayB, hd], by simpa using h1, h2⟩
/-- a slice that reads as a list of ints -/
def IsInts (w : World) (v : Value) (l : List Int) : Prop :=
  (v = .slice none 0 0 ∧ l = []) ∨ ∃ g o cap cs fr, v = .slice (some ⟨g, o, none⟩) l.length cap ∧ w.heap[g]? = some (.cells cs 3 fr) ∧ ∀ j x, l[j]? = some x → cs[o + j]? = some (.int .i64 x)
def clampP (n : Int) : Nat := (max (min n 256) 0).toNat
def torn (n : Nat) (y s : Bs) : Bs := y.take n ++ s.drop n
def crashS (S : List Bs) (Z : List ((Nat × Bs) × Int)) : List Bs := Z.foldl (fun S z => S.set z.1.1 (torn (clampP z.2) z.1.2 (S.getD z.1.1 []))) S
def DK.crash (D : DK) (p : List Int) : DK := { S := crashS D.S (D.L.zip p), L := [], fuse := none }
theorem run_min_int (w : World) (x y : Int) : (Builtin.min_ #[3, 3] 3 #[.int .i64 x, .int .i64 y]).run Try.prog w = .ok (.int .i64 (min x y)) w := by
  have e : min x y = if y < x then y else x := by split <;> omega
  rw [e]
  unfold Builtin.min_
  simp [Builtin.min2]
theorem run_max_int (w : World) (x y : Int) : (Builtin.max_ #[3, 3] 3 #[.int .i64 x, .int .i64 y]).run Try.prog w = .ok (.int .i64 (max x y)) w := by
  have e : max x y = if x < y then y else x := by split <;> omega
  rw [e]
  unfold Builtin.max_
  simp [Builtin.max2]
theorem crashS_snoc (S : List Bs) (Z : List ((Nat × Bs) × Int)) (z : (Nat × Bs) × Int) : crashS S (Z ++ [z]) = (crashS S Z).set z.1.1 (torn (clampP z.2) z.1.2 ((crashS S Z).getD z.1.1 [])) := by simp [crashS]
theorem length_crashS (S : List Bs) (Z : List ((Nat × Bs) × Int)) : (crashS S Z).length = S.length := by
  induction Z generalizing S with
  | nil => rfl
  | cons x r ih => exact (ih _).trans (by simp)
theorem clampP_le (z : Int) : clampP z ≤ 256 := by unfold clampP; omega
theorem length_torn (c : Nat) (y x : Bs) (hc : c ≤ 256) (hy : y.length = 256) (hx : x.length = 256) : (torn c y x).length = 256 := by
  simp only [torn, List.length_append, List.length_take, List.length_drop, hy, hx]; omega
theorem lens_crashS (S : List Bs) (Z : List ((Nat × Bs) × Int)) (hS : ∀ x ∈ S, x.length = 256) (hZ : ∀ z ∈ Z, z.1.2.length = 256) : ∀ x ∈ crashS S Z, x.length = 256 := by
  induction Z generalizing S with
  | nil => exact hS
  | cons z r ih =>
    refine ih _ (fun x hx => ?_) (fun x hx => hZ x (List.mem_cons_of_mem _ hx))
    by_cases hlt : z.1.1 < S.length
    · rcases List.mem_or_eq_of_mem_set hx with hx | rfl
      · exact hS x hx
      · have : S.getD z.1.1 [] = S[z.1.1] := by simp [List.getD, hlt]
        rw [this]
        exact length_torn _ _ _ (clampP_le _) (hZ z (List.mem_cons_self ..)) (hS _ (List.getElem_mem hlt))
    · have e : S.set z.1.1 (torn (clampP z.2) z.1.2 (S.getD z.1.1 [])) = S := List.set_eq_of_length_le (by omega)
      have hx' : x ∈ S.set z.1.1 (torn (clampP z.2) z.1.2 (S.getD z.1.1 [])) := hx
      rw [e] at hx'; exact hS x hx'
theorem flat_torn (S : List Bs) (hS : ∀ x ∈ S, x.length = 256) (i c : Nat) (x y : Bs) (hx : S[i]? = some x) (hc : c ≤ 256) (hy : y.length = 256) :
    (flatS S).take (i * 256) ++ cellsOf (y.take c) ++ (flatS S).drop (i * 256 + (cellsOf (y.take c)).length) = flatS (S.set i (torn c y x)) := by
  have hi := (List.getElem?_eq_some_iff.1 hx).1
  have hx2 := hS x (List.mem_of_getElem? hx)
  have ht : (torn c y x).length = 256 := length_torn c y x hc hy hx2
  rw [← flat_set S hS i (torn c y x) hi ht, spl]
  have hcl : (cellsOf (y.take c)).length = c := by rw [length_cellsOf, List.length_take, hy]; omega
  rw [hcl, length_cellsOf, ht]
  have e : (flatS S).drop (i * 256 + c) = cellsOf (x.drop c) ++ (flatS S).drop (i * 256 + 256) := by
    have hsp : flatS S = (flatS S).take (i * 256) ++ (cellsOf x ++ (flatS S).drop (i * 256 + 256)) := by
      have := flat_set S hS i x hi hx2
      rw [show S.set i x = S from by
        have e : S[i] = x := by rw [List.getElem?_eq_getElem hi] at hx; exact Option.some.inj hx
        rw [← e]; exact List.set_getElem_self hi, spl, length_cellsOf, hx2, List.append_assoc] at this
      exact this.symm
    have hl : ((flatS S).take (i * 256)).length = i * 256 := by
      rw [List.length_take, show (flatS S).length = S.length * 256 from length_flat cellsOf 256 S (fun x hx => by rw [length_cellsOf, hS x hx])]; omega
    conv => lhs; rw [hsp]
    rw [List.drop_append, List.drop_eq_nil_of_le (by omega), hl, List.nil_append, show i * 256 + c - i * 256 = c from by omega, List.drop_append_of_le_length (by rw [length_cellsOf, hx2]; exact hc)]
    simp [cellsOf]
  rw [e, torn, cellsOf_append]
  simp [List.append_assoc]
theorem alen_bytes : Try.prog.arrayLen 80 = 256 := by kernel_rfl
theorem und_bytes : Try.prog.underlying 80 = some (.array (Try.prog.arrayLen 80) (Try.prog.elem 80)) := by kernel_rfl
theorem run_slice_bytes_to (w : World) (g o c : Nat) (hc : c ≤ 256) :
    (Instr.sliceAt 80 (.pointer (some ⟨g, o, none⟩)) none (some (.int .i64 (c : Int))) none).run Try.prog w = .ok (.slice (some ⟨g, o, none⟩) c 256) w := by
  have h := run_sliceAt_array_h (P := Try.prog) w 80 ⟨g, o, none⟩ und_bytes .i64 (c : Int) (by omega) (by rw [alen_bytes]; omega)
  rw [h, alen_bytes]
  have hs : (sizeOf (Try.prog.elem 80)).run Try.prog w = .ok 1 w := by kernel_rfl
  rw [hs]
  simp only [Result.andThen_ok, slicedAt, Int.toNat_natCast, Nat.sub_zero, Nat.zero_mul]
  have : (if 256 = 0 then (⟨g, o, none⟩ : Addr) else Addr.add ⟨g, o, none⟩ 0) = ⟨g, o, none⟩ := by simp [Addr.add]
  rw [this]
/-- how a Crash ends -/
theorem crash_end (w W : World) (b : Nat) (D : DK) (p : List Int) (bs : Nat) (hfb : Floor.b ≤ b) (hfs : Floor.b ≤ bs) (lf : Int) (fl : Bool) (lv : Value) (hk : Keep (mods diskT) w W) (hok : D.Ok)
    (hb : W.heap[b]? = some (.cells #[.slice (some ⟨bs, 0, none⟩) D.S.length D.S.length, lv, .bool fl, .int .i64 lf] 78 (0, 0)))
    (hs : W.heap[bs]? = some (.cells (flatS (crashS D.S (D.L.zip p))).toArray 80 (0, 0))) :
    IsDisk ((W.setCell ⟨b, 1, none⟩ (.slice none 0 0)).setCell ⟨b, 2, none⟩ (.bool false)) b (D.crash p) ∧ Keep (mods diskT) w ((W.setCell ⟨b, 1, none⟩ (.slice none 0 0)).setCell ⟨b, 2, none⟩ (.bool false)) := by
  have h1 := heap_setCell_block (o := 1) hb (.slice none 0 0)
  refine ⟨⟨⟨lens_crashS _ _ hok.len (fun z hz => (hok.lens z.1 (List.of_mem_zip hz).1).2), (fun x hx => by cases hx), ?_, ?_, (fun n hn => by cases hn)⟩, hfb, bs, .slice none 0 0, lf, ?_, (fun n hn => by cases hn), ?_, World.ownsRow_nil _ _ _ _, hfs⟩,
    (hk.setCell_mods hb (by decide) hfb _).setCell_mods h1 (by decide) hfb _⟩
  · show 0 < (crashS D.S (D.L.zip p)).length
    rw [length_crashS]; exact hok.pos
  · show (crashS D.S (D.L.zip p)).length ≤ 4096
    rw [length_crashS]; exact hok.le
  · rw [heap_setCell_block h1]
    show _ = some (Obj.cells #[.slice (some ⟨bs, 0, none⟩) (crashS D.S (D.L.zip p)).length (crashS D.S (D.L.zip p)).length, .slice none 0 0, .bool false, .int .i64 lf] _ _)
    rw [length_crashS]
    rfl
  · have hne : bs ≠ b := fun e => by rw [e, hb] at hs; exact absurd (Obj.cells.inj (Option.some.inj hs)).2.1 (by decide)
    rw [heap_setCell_far _ hne, heap_setCell_far _ hne]
    exact hs
set_option maxRecDepth 100000 in
set_option maxHeartbeats 1000000 in
theorem crash_disk (w : World) (b : Nat) (D : DK) (h : IsDisk w b D) (v : Value) (p : List Int) (hv : IsInts w v p) (hmax : D.L.length ≤ 1000000000000) (hp : p.length ≤ 1000000000000) :
    Calls Try.prog 22 #[.pointer (some ⟨b, 0, none⟩), v] w fun e w' => e = .returned (.int .i64 0) ∧ IsDisk w' b (D.crash p) ∧ Keep (mods diskT) w w' := by
  have Hno := Lib.hid (none_disk w b D h)
  obtain ⟨bs, lv, lf, hb, hf, hsu, hl, hbb⟩ := h.lies
  have hfb := h.fl
  obtain ⟨vo, vc, rfl⟩ : ∃ vo vc, v = .slice vo p.length vc := by
    rcases hv with ⟨rfl, rfl⟩ | ⟨g, o, cap, cs, fr, rfl, _⟩
    · exact ⟨_, _, rfl⟩
    · exact ⟨_, _, rfl⟩
  rcases ownsRow_slice hl with ⟨rfl, hn0⟩ | ⟨g, cap, cur, rfl, hg, hpre⟩
  · have c1 := cell_at hb (i := 1) rfl
    have f1 := frozen_at hb 1
    have c2 := cell_at hb (i := 2) rfl
    have f2 := frozen_at hb 2
    have Fin := Lib.hid (crash_end w w b D p bs hfb hbb lf D.fuse.isSome _ (Keep.refl _ _) h.ok hb (by rw [List.eq_nil_of_length_eq_zero hn0]; exact hsu))
    clear hn0 hl hv h hf hsu
    go_enter Try.func22, Try.ntmps22
    go_wp2_with (go_at_call 47; refine Hno.out.mono ?_; rintro e w' ⟨rfl, rfl⟩)
    go_loopw [15] (fun v W => v = .int .i64 0 ∧ W = w) (fun _ _ => 0)
    case atStart => exact ⟨rfl, rfl⟩
    case round =>
      obtain ⟨rfl, rfl⟩ := hrel
      go_wp2
      go_ret
      exact ⟨rfl, Fin.out⟩
  · have c1 := cell_at hb (i := 1) rfl
    have Hpre := Lib.hid hpre
    have HV := Lib.hid hv
    have Hok := Lib.hid h.ok
    have HokL := Lib.hid (fun k y (hy : D.L[k]? = some y) => flat_at (fun x : Nat × Bs => Value.int .i64 (x.1 : Int) :: cellsOf x.2) 257 D.L h.ok.lenL k y hy)
    clear hpre hl hv h hf
    go_enter Try.func22, Try.ntmps22
    go_wp2_with (go_at_call 47; refine Hno.out.mono ?_; rintro e w' ⟨rfl, rfl⟩)
    go_loopw [15] (fun v W => ∃ k : Nat, k ≤ D.L.length ∧ v = .int .i64 (k : Int) ∧ Hid (W.heap[bs]? = some (.cells (flatS (crashS D.S ((D.L.zip p).take k))).toArray 80 (0, 0))) ∧
        Hid (W.heap[b]? = some (.cells #[.slice (some ⟨bs, 0, none⟩) D.S.length D.S.length, .slice (some ⟨g, 0, none⟩) D.L.length cap, .bool D.fuse.isSome, .int .i64 lf] 78 (0, 0))) ∧ Hid (W.heap[g]? = some (.cells cur.toArray 82 (0, 0))) ∧ Keep (mods diskT) w W)
      (fun v _ => D.L.length - (intOf v).toNat)
    case atStart => exact ⟨0, Nat.zero_le _, rfl, hsu, hb, hg, Keep.refl _ _⟩
    case round =>
      obtain ⟨k, hk, rfl, Hs, Hb, Hg, HK⟩ := hrel
      clear hsu hb hg c1
      by_cases hlt : k < D.L.length
      · obtain ⟨y, hy⟩ : ∃ y, D.L[k]? = some y := ⟨_, List.getElem?_eq_getElem hlt⟩
        have Hy := Lib.hid hy
        have hyS : y.1 < D.S.length := (Hok.out.lens y (List.mem_of_getElem? hy)).1
        have hy2 := (Hok.out.lens y (List.mem_of_getElem? hy)).2
        have Hy2 := Lib.hid hy2
        have Hld := Lib.hid (run_load_elem wr g (k * 257) cur _ _ y.1 y.2 hy2 Hg.out (fun j hj => by
          obtain ⟨c, h1⟩ : ∃ c, (wrL y.1 y.2)[j]? = some c := ⟨_, List.getElem?_eq_getElem (by rw [length_wrL, hy2]; exact hj)⟩
          rw [h1]
          exact prefix_at Hpre.out ((HokL.out k y hy j hj).trans h1)))
        clear hy hy2
        go_upto_region 5 with (fail)
        apply wp_region_lit
        refine ls_same (.int .i64 k) rfl (by go_simp) ?_
        refine ls_same (.pointer (some ⟨g, k * 257, none⟩)) rfl (by go_simp) ?_
        simp only [Act.put, List.setIfInBounds_toArray, List.set_cons_succ, List.set_cons_zero]
        refine ls_same (.agg (wrC y.1 y.2)) rfl (exec_v Hld.out) ?_
        simp only [Act.put, List.setIfInBounds_toArray, List.set_cons_succ, List.set_cons_zero]
        refine ls_val rfl (exec_v (run_alloc_write wr _)) ?_
        simp only [Act.put, List.setIfInBounds_toArray, List.set_cons_succ, List.set_cons_zero]
        refine ls_same (.int .i64 k) rfl (by go_simp) ?_
        simp only [Act.put, List.setIfInBounds_toArray, List.set_cons_succ, List.set_cons_zero]
        refine ls_unit rfl (exec_u (run_store_elem wr 0 y.1 (zbs 256) y.2 (length_zbs 256) Hy2.out)) ?_
        simp only [Act.put, List.setIfInBounds_toArray, List.set_cons_succ, List.set_cons_zero]
        obtain ⟨W2, hW2⟩ : ∃ W2, wr.alloc (.cells (wrC y.1 y.2) 82) = W2 := ⟨_, rfl⟩
        have b2 := heap_old Hb.out (.cells (wrC y.1 y.2) 82)
        have s2 := heap_old Hs.out (.cells (wrC y.1 y.2) 82)
        have g2 := heap_old Hg.out (.cells (wrC y.1 y.2) 82)
        have n2 := heap_new wr (.cells (wrC y.1 y.2) 82)
        have k2 := HK.alloc (.cells (wrC y.1 y.2) 82)
        rw [hW2] at b2 s2 g2 n2 k2
        rw [hW2]
        obtain ⟨nb, hnb⟩ : ∃ nb, wr.heap.size = nb := ⟨_, rfl⟩
        rw [hnb] at n2
        rw [hnb]
        clear hW2 hnb Hld
        by_cases hkp : k < p.length
        · rcases HV.out with ⟨_, hp0⟩ | ⟨pg, po, pcap, pcs, pfr, hve, hpg, hpc⟩
          · rw [hp0] at hkp; exact absurd hkp (by simp)
          · cases hve
            obtain ⟨z, hz⟩ : ∃ z, p[k]? = some z := ⟨_, List.getElem?_eq_getElem hkp⟩
            have cp : W2.cell? ⟨pg, po + k, none⟩ = some (.int .i64 z) := cell_at (k2.cells hpg (by decide)) (hpc k z hz)
            have Hz := Lib.hid hz
            clear hz hpc
            obtain ⟨m, hm⟩ : ∃ m, min z 256 = m := ⟨_, rfl⟩
            obtain ⟨c, hc⟩ : ∃ c, clampP z = c := ⟨_, rfl⟩
            have hc2 : c ≤ 256 := by rw [← hc, clampP]; omega
            have hmin := fun W => run_min_int W z 256
            have hmx := fun W => run_max_int W m 0
            rw [hm] at hmin
            rw [show max m 0 = (c : Int) by rw [← hm, ← hc, clampP]; omega] at hmx
            have Hc := Lib.hid hc
            clear hm hc
            apply wpList_nil
            go_wp2
            clear hmin hmx
            refine wp_region_moves (fun W => W.heap[b]? = some (.cells #[.slice (some ⟨bs, 0, none⟩) D.S.length D.S.length, .slice (some ⟨g, 0, none⟩) D.L.length cap, .bool D.fuse.isSome, .int .i64 lf] 78 (0, 0)) ∧ W.heap[nb]? = some (.cells (wrC y.1 y.2) 82 (0, 0)))
              [(0, true), (1, true), (2, true), (3, true), (4, true), (5, true), (6, true), (7, true), (8, true), (9, true), (10, true), (11, true), (12, false)] (by kernel_rfl) (by kernel_rfl) (by kernel_rfl) (fun _ _ _ _ _ h => h) ⟨b2, n2⟩ ?_
            simp only [movesOps, List.getElem?_toArray, List.getElem?_cons_zero, List.getElem?_cons_succ]
            refine mv_still (.pointer (some ⟨b, 0, none⟩)) rfl (fun W hS => by go_simp) ?_
            simp only [Act.put, List.setIfInBounds_toArray, List.set_cons_succ, List.set_cons_zero]
            refine mv_still (.pointer (some ⟨b, 0, none⟩)) rfl (fun W hS => by go_simp) ?_
            simp only [Act.put, List.setIfInBounds_toArray, List.set_cons_succ, List.set_cons_zero]
            refine mv_still (.pointer (some ⟨b, 0, none⟩)) rfl (fun W hS => by go_simp) ?_
            simp only [Act.put, List.setIfInBounds_toArray, List.set_cons_succ, List.set_cons_zero]
            refine mv_still (.slice (some ⟨bs, 0, none⟩) D.S.length D.S.length) rfl (fun W hS => by have d := cell_at hS.1 (i := 0) rfl; clear hS; go_simp) ?_
            simp only [Act.put, List.setIfInBounds_toArray, List.set_cons_succ, List.set_cons_zero]
            refine mv_still (.pointer (some ⟨nb, 0, none⟩)) rfl (fun W hS => by go_simp) ?_
            simp only [Act.put, List.setIfInBounds_toArray, List.set_cons_succ, List.set_cons_zero]
            refine mv_still (.int .i64 y.1) rfl (fun W hS => by have d := cell_at hS.2 (i := 0) rfl; clear hS; go_simp; rfl) ?_
            simp only [Act.put, List.setIfInBounds_toArray, List.set_cons_succ, List.set_cons_zero]
            refine mv_still (.pointer (some ⟨bs, y.1 * 256, none⟩)) rfl (fun W hS => by clear hS; go_simp) ?_
            simp only [Act.put, List.setIfInBounds_toArray, List.set_cons_succ, List.set_cons_zero]
            refine mv_still (.int .i64 c) rfl (fun W hS => by clear hS; go_simp) ?_
            simp only [Act.put, List.setIfInBounds_toArray, List.set_cons_succ, List.set_cons_zero]
            refine mv_still (.slice (some ⟨bs, y.1 * 256, none⟩) c 256) rfl (fun W hS => exec_v (run_slice_bytes_to W bs _ c hc2)) ?_
            simp only [Act.put, List.setIfInBounds_toArray, List.set_cons_succ, List.set_cons_zero]
            refine mv_still (.pointer (some ⟨nb, 1, none⟩)) rfl (fun W hS => by clear hS; go_simp) ?_
            simp only [Act.put, List.setIfInBounds_toArray, List.set_cons_succ, List.set_cons_zero]
            refine mv_still (.int .i64 c) rfl (fun W hS => by clear hS; go_simp) ?_
            simp only [Act.put, List.setIfInBounds_toArray, List.set_cons_succ, List.set_cons_zero]
            refine mv_still (.slice (some ⟨nb, 1, none⟩) c 256) rfl (fun W hS => exec_v (run_slice_bytes_to W nb 1 c hc2)) ?_
            simp only [Act.put, List.setIfInBounds_toArray, List.set_cons_succ, List.set_cons_zero]
            obtain ⟨S1, hS1⟩ : ∃ S1, crashS D.S ((D.L.zip p).take k) = S1 := ⟨_, rfl⟩
            have hS1l : S1.length = D.S.length := by rw [← hS1, length_crashS]
            have hS1n : ∀ x ∈ S1, x.length = 256 := by rw [← hS1]; exact lens_crashS _ _ Hok.out.len (fun z hz => (Hok.out.lens z.1 (List.of_mem_zip (List.mem_of_mem_take hz)).1).2)
            rw [hS1] at s2
            obtain ⟨x, hx⟩ : ∃ x, S1[y.1]? = some x := ⟨_, List.getElem?_eq_getElem (by rw [hS1l]; exact hyS)⟩
            have hx2 := hS1n x (List.mem_of_getElem? hx)
            have htl : (cellsOf (y.2.take c)).length = c := by rw [length_cellsOf, List.length_take, Hy2.out]; omega
            have hlen : (flatS S1).length = D.S.length * 256 := by rw [← hS1l]; exact length_flat cellsOf 256 _ (fun x hx => by rw [length_cellsOf]; exact hS1n x hx)
            have hst := run_copy_row (P := Try.prog) W2.drew 83 83 3 5 bs (y.1 * 256) c 256 ⟨nb, 1, none⟩ c 256 (flatS S1).toArray 80 (cellsOf (y.2.take c)) Try.underlying83 (by kernel_rfl) s2
              (by rw [htl]; exact (Nat.min_self c).symm)
              (fun j v hj => by
                rw [Addr.add_mid]
                refine cell_at (w := W2.drew) n2 ?_
                have hjc := (List.getElem?_eq_some_iff.1 hj).1
                rw [htl] at hjc
                have : (wrC y.1 y.2)[1 + j]? = (cellsOf y.2)[j]? := by rw [Nat.add_comm 1 j]; simp [wrC, wrL]
                rw [this, ← hj]
                simp only [cellsOf, List.map_take, List.getElem?_take]
                rw [if_pos hjc])
              (by rw [htl]; simp only [List.size_toArray]; rw [hlen]; omega) (cellsOf_one _)
            have e1 : ((flatS S1).toArray.toList.take (y.1 * 256) ++ cellsOf (y.2.take c) ++ (flatS S1).toArray.toList.drop (y.1 * 256 + (cellsOf (y.2.take c)).length)) = flatS (S1.set y.1 (torn c y.2 x)) :=
              flat_torn S1 hS1n y.1 c x y.2 hx hc2 Hy2.out
            have e2 : crashS D.S ((D.L.zip p).take (k + 1)) = S1.set y.1 (torn c y.2 x) := by
              have hzip : (D.L.zip p)[k]? = some (y, z) := by rw [List.getElem?_zip_eq_some]; exact ⟨Hy.out, Hz.out⟩
              rw [List.take_add_one, hzip]
              show crashS D.S ((D.L.zip p).take k ++ [(y, z)]) = _
              rw [crashS_snoc, hS1]
              simp only [List.getD, hx, Option.getD_some, Hc.out]
            rw [e1, ← e2] at hst
            refine mv_last rfl (fun K hK => wp_value (exec_copy rfl rfl rfl hst) (hK _ _ ?_))
            clear hK hst e1 hlen
            have Hs3 := Lib.hid (setRow_heap_at (w := W2.drew) s2 (flatS (crashS D.S ((D.L.zip p).take (k + 1)))).toArray)
            have hbs : bs ≠ b := fun e => by rw [e, b2] at s2; exact absurd (Obj.cells.inj (Option.some.inj s2)).2.1 (by decide)
            have hbg : bs ≠ g := fun e => by rw [e, g2] at s2; exact absurd (Obj.cells.inj (Option.some.inj s2)).2.1 (by decide)
            have Hb3 := Lib.hid ((setRow_other W2.drew bs b (flatS (crashS D.S ((D.L.zip p).take (k + 1)))).toArray hbs.symm).trans b2)
            have Hg3 := Lib.hid ((setRow_other W2.drew bs g (flatS (crashS D.S ((D.L.zip p).take (k + 1)))).toArray hbg.symm).trans g2)
            have k3 := (k2.drew).setRow_mods (g := bs) s2 (by decide) hbb (flatS (crashS D.S ((D.L.zip p).take (k + 1)))).toArray
            generalize W2.drew.setRow bs (flatS (crashS D.S ((D.L.zip p).take (k + 1)))).toArray = W3 at *
            clear e2 hbs hbg b2 s2 g2 n2 k2 hyS hS1 hS1l hS1n hx hx2 htl
            go_wp2
            go_roundw
            case rel => exact ⟨k + 1, by omega, by go_num, Hs3, Hb3, Hg3, k3⟩
            case measure => simp [intOf]; omega
        · have hz : (D.L.zip p).take (k + 1) = (D.L.zip p).take k := by
            rw [List.take_of_length_le (by rw [List.length_zip]; omega), List.take_of_length_le (by rw [List.length_zip]; omega)]
          have Hs3 := Lib.hid s2
          rw [← hz] at Hs3
          have Hb3 := Lib.hid b2
          have Hg3 := Lib.hid g2
          clear hz s2 b2 g2 n2
          apply wpList_nil
          go_wp2
          go_roundw
          case rel => exact ⟨k + 1, by omega, by go_num, Hs3, Hb3, Hg3, k2⟩
          case measure => simp [intOf]; omega
      · have hkk : k = D.L.length := by omega
        have hs := Hs.out
        rw [List.take_of_length_le (by rw [List.length_zip]; omega)] at hs
        have Fin := Lib.hid (crash_end w wr b D p bs hfb hbb lf D.fuse.isSome _ HK Hok.out Hb.out hs)
        have hb := Hb.out
        have c1 := cell_at hb (i := 1) rfl
        have f1 := frozen_at hb 1
        have c2 := cell_at hb (i := 2) rfl
        have f2 := frozen_at hb 2
        clear hs hkk
        go_wp2
        go_ret
        exact ⟨rfl, Fin.out⟩
end Go.Proofs.Ytimfgeklnlnniaa
