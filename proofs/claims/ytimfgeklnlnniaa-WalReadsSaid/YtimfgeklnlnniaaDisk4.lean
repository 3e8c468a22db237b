/- A disk of blocks, part 4: Write as a whole; Read. -/
import Derived.Test.YtimfgeklnlnniaaDisk3
import Derived.Deep.CutBlock
import Derived.Deep.DeepCutAuto
namespace Go.Proofs.Ytimfgeklnlnniaa
set_option linter.unusedVariables false
set_option linter.unusedSimpArgs false
open Go.RowKit Go.Lib
set_option linter.unusedSectionVars false
variable [Floor]
theorem write_no (w : World) (b : Nat) (D : DK) (h : IsDisk w b D) (i : Int) (s : Bs) (hd : thereB D i ≠ 0) :
    Calls Try.prog 33 #[.pointer (some ⟨b, 0, none⟩), .int .i64 i, .string ⟨s.toArray⟩] w fun e w' => e = .returned (.int .i64 (thereB D i)) ∧ w = w' := by
  have Hth := Lib.hid (there_disk w b D h i)
  have hz : (thereB D i != 0) = true := by simpa using hd
  generalize thereB D i = t at *
  clear h hd
  go_enter Try.func33, Try.ntmps33
  go_wp2_with (go_at_call 49; refine Hth.out.mono ?_; rintro e w' ⟨rfl, rfl⟩)
  go_ret
  exact ⟨rfl, rfl⟩
theorem write_arg (w : World) (b : Nat) (D : DK) (h : IsDisk w b D) (i : Int) (s : Bs) (hd : thereB D i = 0) (hs : s.length ≠ 256) :
    Calls Try.prog 33 #[.pointer (some ⟨b, 0, none⟩), .int .i64 i, .string ⟨s.toArray⟩] w fun e w' => e = .returned (.int .i64 2) ∧ w = w' := by
  have hth := there_disk w b D h i
  rw [hd] at hth
  have Hth := Lib.hid hth
  have hsz : ((s.length : Int) != 256) = true := by simp; omega
  clear hth h hd hs
  go_enter Try.func33, Try.ntmps33
  go_wp2_with (go_at_call 49; refine Hth.out.mono ?_; rintro e w' ⟨rfl, rfl⟩)
  go_ret
  exact ⟨rfl, rfl⟩
/-- Write: what it answers, and the disk behind it -/
def DK.write (D : DK) (i : Int) (s : Bs) : DK × Int :=
  if thereB D i = 0 then (if s.length = 256 then (D.wrote i.toNat s, 0) else (D, 2)) else (D, thereB D i)
theorem there_zero {D : DK} {i : Int} (h : thereB D i = 0) : D.down = false ∧ 0 ≤ i ∧ i < D.S.length := by
  unfold thereB at h
  split at h
  · cases h
  · rename_i h1
    split at h
    · rename_i h2; exact ⟨by simpa using h1, h2⟩
    · cases h
theorem write_disk (w : World) (b : Nat) (D : DK) (h : IsDisk w b D) (i : Int) (s : Bs) (hL : D.L.length ≤ 1000000000) :
    Calls Try.prog 33 #[.pointer (some ⟨b, 0, none⟩), .int .i64 i, .string ⟨s.toArray⟩] w fun e w' => e = .returned (.int .i64 (D.write i s).2) ∧ IsDisk w' b (D.write i s).1 ∧ Keep (mods diskT) w w' := by
  by_cases ht : thereB D i = 0
  · obtain ⟨h1, h2, h3⟩ := there_zero ht
    by_cases hs : s.length = 256
    · obtain ⟨n, rfl⟩ := Int.eq_ofNat_of_zero_le h2
      have e : D.write n s = (D.wrote n s, 0) := by simp [DK.write, ht, hs]
      rw [e]
      exact write_yes w b D h n s (by omega) hs h1 hL
    · have e : D.write i s = (D, 2) := by simp [DK.write, ht, hs]
      rw [e]
      refine (write_arg w b D h i s ht hs).mono ?_
      rintro e w' ⟨rfl, rfl⟩
      exact ⟨rfl, h, Keep.refl _ _⟩
  · have e : D.write i s = (D, thereB D i) := by simp [DK.write, ht]
    rw [e]
    refine (write_no w b D h i s ht).mono ?_
    rintro e w' ⟨rfl, rfl⟩
    exact ⟨rfl, h, Keep.refl _ _⟩
/-- the last loose write of a block, among the first k -/
def lastOf (L : List (Nat × Bs)) (i : Nat) : Option Bs := (L.reverse.find? fun x => x.1 == i).map (·.2)
def DK.read (D : DK) (i : Int) : Bs × Int :=
  if thereB D i = 0 then ((lastOf D.L i.toNat).getD (D.S.getD i.toNat []), 0) else ([], thereB D i)
theorem read_no (w : World) (b : Nat) (D : DK) (h : IsDisk w b D) (i : Int) (hd : thereB D i ≠ 0) :
    Calls Try.prog 24 #[.pointer (some ⟨b, 0, none⟩), .int .i64 i] w fun e w' => e = .returned (.tuple #[.string ⟨#[]⟩, .int .i64 (thereB D i)]) ∧ w = w' := by
  have Hth := Lib.hid (there_disk w b D h i)
  have hz : (thereB D i != 0) = true := by simpa using hd
  generalize thereB D i = t at *
  clear h hd
  go_enter Try.func24, Try.ntmps24
  go_wp2
  go_step3
  go_wp2_with (go_at_call 49; refine Hth.out.mono ?_; rintro e w' ⟨rfl, rfl⟩)
  try rw [Exit.noGoto_ret]
  go_ret2
  exact ⟨rfl, rfl⟩
theorem flat_at {α : Type} (f : α → List Value) (m : Nat) : ∀ (L : List α), (∀ x ∈ L, (f x).length = m) → ∀ (i : Nat) (x : α), L[i]? = some x → ∀ j, j < m → (L.flatMap f)[i * m + j]? = (f x)[j]?
  | [], _, i, x, h, _, _ => by simp at h
  | y :: r, hl, 0, x, h, j, hj => by
    obtain rfl : y = x := by simpa using h
    rw [List.flatMap_cons, Nat.zero_mul, Nat.zero_add, List.getElem?_append_left (by rw [hl _ (List.mem_cons_self ..)]; exact hj)]
  | y :: r, hl, i + 1, x, h, j, hj => by
    have hy := hl y (List.mem_cons_self ..)
    have ih := flat_at f m r (fun z hz => hl z (List.mem_cons_of_mem _ hz)) i x (by simpa using h) j hj
    rw [List.flatMap_cons, List.getElem?_append_right (by rw [hy, Nat.add_mul]; omega), hy, ← ih]
    congr 1
    rw [Nat.add_mul]; omega
theorem length_flat {α : Type} (f : α → List Value) (m : Nat) : ∀ (L : List α), (∀ x ∈ L, (f x).length = m) → (L.flatMap f).length = L.length * m
  | [], _ => by simp
  | y :: r, hl => by
    rw [List.flatMap_cons, List.length_append, hl y (List.mem_cons_self ..), length_flat f m r (fun z hz => hl z (List.mem_cons_of_mem _ hz)), List.length_cons, Nat.add_mul]; omega
theorem DK.Ok.lenS {D : DK} (h : D.Ok) : ∀ x ∈ D.S, (cellsOf x).length = 256 := fun x hx => by rw [length_cellsOf]; exact h.len x hx
theorem DK.Ok.lenL {D : DK} (h : D.Ok) : ∀ x ∈ D.L, (Value.int .i64 (x.1 : Int) :: cellsOf x.2).length = 257 := fun x hx => by rw [List.length_cons, length_cellsOf, (h.lens x hx).2]
theorem size_bytes : (Try.prog.info? 80).map (·.size) = some 256 := by kernel_rfl
theorem run_load_bytes (w : World) (g o : Nat) (cs : List Value) (t : TypeId) (fr : Nat × Nat) (x : Bs) (hx : x.length = 256) (h : w.heap[g]? = some (.cells cs.toArray t fr)) (hv : ∀ j, j < 256 → cs[o + j]? = (cellsOf x)[j]?) :
    (Instr.loadAt 80 (.pointer (some ⟨g, o, none⟩))).run Try.prog w = .ok (.agg (cellsOf x).toArray) w :=
  run_loadAt_row 80 _ (cellsOf x) (cs := cs) h (fun j hj => hv j (by rw [length_cellsOf, hx] at hj; exact hj)) Try.underlying80 rfl (by rw [size_bytes, length_cellsOf, hx])
theorem zero_bytes : Try.zeroCells80 = (cellsOf (zbs 256)).toArray := by kernel_rfl
theorem run_alloc_bytes (w : World) (o : Value) : (Instr.alloc 80 true o).run Try.prog w = .ok (.pointer (some ⟨w.heap.size, 0, none⟩)) (w.alloc (.cells (cellsOf (zbs 256)).toArray 80)) := by
  rw [← zero_bytes]
  simp [Instr.alloc, go_sem, newVar, newRow, Value.cells]
theorem run_store_bytes (w : World) (x y : Bs) (hx : x.length = 256) (hy : y.length = 256) :
    (Instr.storeAt 80 (.pointer (some ⟨w.heap.size, 0, none⟩)) (.agg (cellsOf y).toArray)).run Try.prog (w.alloc (.cells (cellsOf x).toArray 80)) = .ok () (w.alloc (.cells (cellsOf y).toArray 80)) :=
  run_storeAt_new w _ _ _ (by rw [size_bytes]; simp [length_cellsOf, hy]) (by simp [length_cellsOf, hx, hy]) (all_oneCell_toArray (cellsOf_one y))
theorem ownsRow_slice {w : World} {base : Nat} {e : TypeId} {size : Nat} {v : Value} {n : Nat} {xs : List Value} (h : w.ownsRow base e size v n xs) :
    (v = .slice none 0 0 ∧ n = 0) ∨ ∃ g cap cur, v = .slice (some ⟨g, 0, none⟩) n cap ∧ w.heap[g]? = some (.cells (List.toArray cur) e (0, 0)) ∧ xs <+: cur := by
  rcases h.2 with h2 | ⟨g, cap, cur, hv, _, hh, _, _, _, ht⟩
  · exact .inl h2
  · exact .inr ⟨g, cap, cur.toList, hv, by simpa using hh, ⟨_, by rw [← ht]; exact List.take_append_drop _ _⟩⟩
theorem prefix_at {xs ys : List Value} (h : xs <+: ys) {i : Nat} {v : Value} (hv : xs[i]? = some v) : ys[i]? = some v := by
  obtain ⟨t, rfl⟩ := h
  rw [List.getElem?_append_left (List.getElem?_eq_some_iff.1 hv).1, hv]
/-- none of the first k has i, seen from behind -/
theorem lastOf_none {L : List (Nat × Bs)} {i : Nat} (h : ∀ (j : Nat) (x : Nat × Bs), L[j]? = some x → x.1 ≠ i) : lastOf L i = none := by
  unfold lastOf
  rw [List.find?_eq_none.2 (fun x hx => ?_)]
  · rfl
  · obtain ⟨j, hj⟩ := List.mem_iff_getElem?.1 (List.mem_reverse.1 hx)
    simpa using h j x hj
theorem lastOf_some {L : List (Nat × Bs)} {i k : Nat} {x : Nat × Bs} (hk : L[k]? = some x) (hi : x.1 = i) (h : ∀ (j : Nat) (y : Nat × Bs), k < j → L[j]? = some y → y.1 ≠ i) : lastOf L i = some x.2 := by
  have hlt := (List.getElem?_eq_some_iff.1 hk).1
  have e : L = L.take k ++ x :: L.drop (k + 1) := by
    have : x = L[k] := by rw [List.getElem?_eq_getElem hlt] at hk; exact (Option.some.inj hk).symm
    rw [this, ← List.drop_eq_getElem_cons hlt, List.take_append_drop]
  have hn : (L.drop (k + 1)).reverse.find? (fun x => x.1 == i) = none := by
    rw [List.find?_eq_none]
    intro y hy
    obtain ⟨j, hj⟩ := List.mem_iff_getElem?.1 (List.mem_reverse.1 hy)
    rw [List.getElem?_drop] at hj
    simpa using h _ y (by omega) hj
  unfold lastOf
  rw [e, List.reverse_append, List.reverse_cons, List.append_assoc, List.find?_append, hn]
  simp [hi]
theorem none_step {L : List (Nat × Bs)} {i k : Nat} {y : Nat × Bs} (h : ∀ (j : Nat) (y : Nat × Bs), k + 1 ≤ j → L[j]? = some y → y.1 ≠ i) (hy : L[k]? = some y) (he : ¬ y.1 = i) :
    ∀ (j : Nat) (y : Nat × Bs), k ≤ j → L[j]? = some y → y.1 ≠ i := fun j z hj hz => by
  by_cases e : j = k
  · subst e; rw [hy] at hz; cases hz; exact he
  · exact h j z (by omega) hz
theorem conv_bytes (w : World) (g cap : Nat) (y : Bs) (hy : y.length = 256) (fr : Nat × Nat) (h : w.heap[g]? = some (.cells (cellsOf y).toArray 80 fr)) :
    (convert 83 9 (.slice (some ⟨g, 0, none⟩) 256 cap)).run Try.prog w = .ok (.string ⟨y.toArray⟩) w := by
  have := run_bytes_string (P := Try.prog) w 83 9 5 Try.underlying83 Try.underlying5 Try.underlying9 g 0 cap y (rangeAt_of_list h (cellsOf y) (fun j _ => by rw [Nat.zero_add]))
  rw [hy] at this
  exact this
set_option maxHeartbeats 400000 in
set_option maxRecDepth 100000 in
theorem read_yes (w : World) (b : Nat) (D : DK) (h : IsDisk w b D) (i : Nat) (hi : i < D.S.length) (hd : D.down = false) (hmax : D.L.length ≤ 9223372036854775807) :
    Calls Try.prog 24 #[.pointer (some ⟨b, 0, none⟩), .int .i64 i] w fun e w' => e = .returned (.tuple #[.string ⟨((lastOf D.L i).getD (D.S.getD i [])).toArray⟩, .int .i64 0]) ∧ Keep nomod w w' := by
  have hth := there_disk w b D h i
  have h0 : thereB D i = 0 := by simp [thereB, hd, hi]
  rw [h0] at hth
  have Hth := Lib.hid hth
  clear hth h0
  have Hok := Lib.hid h.ok
  obtain ⟨bs, lv, lf, hb, hf, hsu, hl, hbb⟩ := h.lies
  obtain ⟨x, hx⟩ : ∃ x, D.S[i]? = some x := ⟨_, List.getElem?_eq_getElem hi⟩
  have hx2 : x.length = 256 := h.ok.len x (List.mem_of_getElem? hx)
  have Hx := Lib.hid hx
  have Hx2 := Lib.hid hx2
  have hld := run_load_bytes w bs (i * 256) (flatS D.S) _ _ x hx2 hsu (flat_at cellsOf 256 D.S h.ok.lenS i x hx)
  have hal := run_alloc_bytes w (.tuple #[])
  have hst := run_store_bytes w (zbs 256) x (length_zbs 256) hx2
  have Hld := Lib.hid hld
  have Hal := Lib.hid hal
  have Hst := Lib.hid hst
  have Hmax := Lib.hid hmax
  clear hld hal hst hx hx2 h hd hmax
  have c0 := cell_at hb (i := 0) rfl
  have c1 := cell_at hb (i := 1) rfl
  clear hf
  go_enter Try.func24, Try.ntmps24
  go_wp2
  go_step3
  go_upto_region 4 with (go_at_call 49; refine Hth.out.mono ?_; rintro e w' ⟨rfl, rfl⟩)
  apply wp_region_lit
  refine ls_same (.pointer (some ⟨b, 0, none⟩)) rfl (by go_simp) ?_
  refine ls_same (.pointer (some ⟨b, 0, none⟩)) rfl (by go_simp) ?_
  refine ls_same (.pointer (some ⟨b, 0, none⟩)) rfl (by go_simp) ?_
  refine ls_same (.slice (some ⟨bs, 0, none⟩) D.S.length D.S.length) rfl (by go_simp) ?_
  refine ls_same (.int .i64 i) rfl (by go_simp) ?_
  refine ls_same (.pointer (some ⟨bs, i * 256, none⟩)) rfl (by go_simp) ?_
  simp only [Act.put, List.setIfInBounds_toArray, List.set_cons_succ, List.set_cons_zero]
  refine ls_same (.agg (cellsOf x).toArray) rfl (exec_v Hld.out) ?_
  simp only [Act.put, List.setIfInBounds_toArray, List.set_cons_succ, List.set_cons_zero]
  refine ls_val rfl (exec_v Hal.out) ?_
  simp only [Act.put, List.setIfInBounds_toArray, List.set_cons_succ, List.set_cons_zero]
  refine ls_unit rfl (exec_u Hst.out) ?_
  simp only [Act.put, List.setIfInBounds_toArray, List.set_cons_succ, List.set_cons_zero]
  obtain ⟨W1, hW1⟩ : ∃ W1, w.alloc (.cells (cellsOf x).toArray 80) = W1 := ⟨_, rfl⟩
  have hb1 := heap_old hb (.cells (cellsOf x).toArray 80)
  have hl1 := hl.alloc (.cells (cellsOf x).toArray 80)
  have hn1 := heap_new w (.cells (cellsOf x).toArray 80)
  have k1 : Keep nomod w W1 := by rw [← hW1]; exact (Keep.refl _ w).alloc _
  rw [hW1] at hb1 hl1 hn1
  rw [hW1]
  obtain ⟨nx, hnx⟩ : ∃ nx, w.heap.size = nx := ⟨_, rfl⟩
  rw [hnx] at hn1
  rw [hnx]
  have Hnx := Lib.hid hnx
  clear hW1 hnx hb hsu hl Hld Hal Hst c0 c1
  rcases ownsRow_slice hl1 with ⟨rfl, hn0⟩ | ⟨g, cap, cur, rfl, hg, hpre⟩
  · have c1 := cell_at hb1 (i := 1) rfl
    have hL : D.L = [] := List.eq_nil_of_length_eq_zero hn0
    have fin : (lastOf D.L i).getD (D.S.getD i []) = x := by rw [hL]; simp [lastOf, List.getD, Hx.out]
    have hcv := conv_bytes W1 nx 256 x Hx2.out _ hn1
    have Fin := Lib.hid fin
    clear fin hL hn0 hl1
    apply wpList_nil
    go_wp2
    go_step3
    go_wp2
    go_loop [8] (fun v => v = .int .i64 (-1)) (fun v => 0)
    case atStart => rfl
    case round =>
      subst hrel
      go_wp2
      try rw [Exit.noGoto_ret]
      go_ret2
      exact ⟨by rw [Fin.out]; rfl, k1⟩
  · have c1 := cell_at hb1 (i := 1) rfl
    have Hpre := Lib.hid hpre
    clear hpre hl1
    have hmax : D.L.length ≤ 9223372036854775807 := Hmax.out
    apply wpList_nil
    go_wp2
    go_step3
    go_wp2
    go_loop [8] (fun v => ∃ k : Nat, k ≤ D.L.length ∧ v = .int .i64 ((k : Int) - 1) ∧ Hid (∀ (j : Nat) (y : Nat × Bs), k ≤ j → D.L[j]? = some y → y.1 ≠ i)) (fun v => (intOf v + 1).toNat)
    case atStart => exact ⟨D.L.length, Nat.le_refl _, rfl, fun j y hj hy => by rw [List.getElem?_eq_none hj] at hy; cases hy⟩
    case round =>
      obtain ⟨k, hk, rfl, HN⟩ := hrel
      cases k with
      | zero =>
        have fin : (lastOf D.L i).getD (D.S.getD i []) = x := by rw [lastOf_none (fun j y => HN.out j y (Nat.zero_le _))]; simp [List.getD, Hx.out]
        have hcv := conv_bytes W1 nx 256 x Hx2.out _ hn1
        have Fin := Lib.hid fin
        clear fin
        go_wp2
        try rw [Exit.noGoto_ret]
        go_ret2
        exact ⟨by rw [Fin.out]; rfl, k1⟩
      | succ k =>
        obtain ⟨y, hy⟩ : ∃ y, D.L[k]? = some y := ⟨_, List.getElem?_eq_getElem (by omega)⟩
        have Hy := Lib.hid hy
        have hcy : W1.cell? ⟨g, k * 257, none⟩ = some (.int .i64 (y.1 : Int)) :=
          cell_at hg (by simpa using prefix_at Hpre.out (flat_at (fun x : Nat × Bs => Value.int .i64 (x.1 : Int) :: cellsOf x.2) 257 D.L Hok.out.lenL k y hy 0 (by omega)))
        clear hy
        rw [show ((k + 1 : Nat) : Int) - 1 = (k : Int) from by omega]
        by_cases he : y.1 = i
        · have het : ((y.1 : Int) == (i : Int)) = true := by simp [he]
          have hy2 : y.2.length = 256 := (Hok.out.lens y (List.mem_of_getElem? Hy.out)).2
          have Hld := Lib.hid (run_load_bytes W1 g (k * 257 + 1) cur _ _ y.2 hy2 hg (fun j hj => by
            obtain ⟨c, h1⟩ : ∃ c, (cellsOf y.2)[j]? = some c := ⟨_, List.getElem?_eq_getElem (by rw [length_cellsOf, hy2]; exact hj)⟩
            rw [h1]
            refine prefix_at Hpre.out ?_
            have h2 := flat_at (fun x : Nat × Bs => Value.int .i64 (x.1 : Int) :: cellsOf x.2) 257 D.L Hok.out.lenL k y Hy.out (1 + j) (by omega)
            rw [Nat.add_comm 1 j, List.getElem?_cons_succ, h1] at h2
            rw [Nat.add_assoc, Nat.add_comm 1 j]
            exact h2))
          have Hst := Lib.hid (run_storeAt_row (P := Try.prog) (o := 0) 80 (cellsOf y.2) hn1 (by rw [length_cellsOf, length_cellsOf, hy2, Hx2.out]; omega) (by rw [size_bytes, length_cellsOf, hy2]) (cellsOf_one y.2))
          have e1 : spl (cellsOf x) 0 (cellsOf y.2) = cellsOf y.2 := by
            unfold spl
            rw [List.drop_eq_nil_of_le (by rw [length_cellsOf, length_cellsOf, hy2, Hx2.out]; omega)]
            simp
          rw [e1] at Hst
          have n2 := setRow_heap_at hn1 (cellsOf y.2).toArray
          have k2 : Keep nomod w (W1.setRow nx (cellsOf y.2).toArray) := k1.setRow (fun o ho => absurd (heap_lt ho) (by have := Hnx.out; omega)) _
          have fin : (lastOf D.L i).getD (D.S.getD i []) = y.2 := by
            rw [lastOf_some Hy.out he (fun j z hj hz => HN.out j z hj hz)]; rfl
          have Fin := Lib.hid fin
          have hcv := Lib.hid (conv_bytes _ nx 256 y.2 hy2 _ n2)
          have hkl : k < D.L.length := by omega
          clear he fin hy2 e1
          go_upto_region 9 with (fail)
          apply wp_region_lit
          refine ls_same (.pointer (some ⟨b, 0, none⟩)) rfl (by go_simp) ?_
          refine ls_same (.pointer (some ⟨b, 0, none⟩)) rfl (by go_simp) ?_
          refine ls_same (.pointer (some ⟨b, 1, none⟩)) rfl (by go_simp) ?_
          refine ls_same (.slice (some ⟨g, 0, none⟩) D.L.length cap) rfl (by go_simp) ?_
          refine ls_same (.int .i64 k) rfl (by go_simp) ?_
          refine ls_same (.pointer (some ⟨g, k * 257, none⟩)) rfl (by go_simp) ?_
          refine ls_same (.pointer (some ⟨g, k * 257 + 1, none⟩)) rfl (by go_simp) ?_
          simp only [Act.put, List.setIfInBounds_toArray, List.set_cons_succ, List.set_cons_zero]
          refine ls_same (.agg (cellsOf y.2).toArray) rfl (exec_v Hld.out) ?_
          simp only [Act.put, List.setIfInBounds_toArray, List.set_cons_succ, List.set_cons_zero]
          refine ls_unit rfl (exec_u Hst.out) ?_
          simp only [Act.put, List.setIfInBounds_toArray, List.set_cons_succ, List.set_cons_zero]
          generalize W1.setRow nx (cellsOf y.2).toArray = W2 at *
          have hcv' := hcv.out
          apply wpList_nil
          go_wp2
          try rw [Exit.noGoto_ret]
          go_ret2
          exact ⟨by rw [Fin.out]; rfl, k2⟩
        · have hef : ((y.1 : Int) == (i : Int)) = false := by simp; omega
          go_wp2
          go_round
          case rel => exact ⟨k, by omega, rfl, none_step HN.out Hy.out he⟩
          case measure => simp [intOf]
end Go.Proofs.Ytimfgeklnlnniaa
