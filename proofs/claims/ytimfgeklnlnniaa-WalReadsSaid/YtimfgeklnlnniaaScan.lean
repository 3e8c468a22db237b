/- Frames, part 4: Scan. -/
import Derived.Test.YtimfgeklnlnniaaFrame3
import Derived.Test.YtimfgeklnlnniaaStrs
import Derived.Test.YtimfgeklnlnniaaPut
import Derived.Shelf.Abstract
namespace Go.Proofs.Ytimfgeklnlnniaa
set_option linter.unusedVariables false
set_option linter.unusedSimpArgs false
open Go.RowKit Go.Shelf
attribute [local go_sem] Oper.semAt_some
theorem all_c (w : World) (s : Bs) : Calls Try.prog 50 #[.string ⟨s.toArray⟩] w fun e w' =>
    e = .returned (.func (.func 70) #[] #[.pointer (some ⟨w.heap.size, 0, none⟩)]) ∧ w' = w.alloc (.cells #[.string ⟨s.toArray⟩] 9) := by
  go_enter Try.func50, Try.ntmps50
  go_wp2
  go_ret
  exact ⟨rfl, rfl⟩
def okE (x : Bs × Nat × Int) : Bool := x.2.2 == 0
/-- the texts, how far it went, the error -/
def foldE : List (Bs × Nat × Int) → List Bs × Nat × Int
  | [] => ([], 0, 0)
  | x :: r => if x.2.2 = 0 then (x.1 :: (foldE r).1, x.2.1 + (foldE r).2.1, (foldE r).2.2) else ([], 0, x.2.2)
def scan1 (s : Bs) : List Bs × Nat × Int := foldE (scanL s.length s)
def sumN (l : List (Bs × Nat × Int)) : Nat := (l.map (·.2.1)).sum
theorem sumN_snoc (l : List (Bs × Nat × Int)) (x : Bs × Nat × Int) : sumN (l ++ [x]) = sumN l + x.2.1 := by simp [sumN]
theorem foldE_good : ∀ (l r : List (Bs × Nat × Int)), (∀ y ∈ l, y.2.2 = 0) → foldE (l ++ r) = (l.map (·.1) ++ (foldE r).1, sumN l + (foldE r).2.1, (foldE r).2.2)
  | [], r, _ => by simp [sumN]
  | x :: l, r, h => by
    rw [List.cons_append, foldE, if_pos (h x (List.mem_cons_self ..)), foldE_good l r (fun y hy => h y (List.mem_cons_of_mem _ hy))]
    simp [sumN, Nat.add_assoc]
theorem scanL_sum : ∀ (k : Nat) (s : Bs) (pre rest : List (Bs × Nat × Int)), scanL k s = pre ++ rest → (∀ y ∈ pre, y.2.2 = 0) → 8 * pre.length ≤ sumN pre ∧ sumN pre ≤ s.length
  | _, _, [], _, _, _ => by simp [sumN]
  | 0, s, p :: pre, rest, h, _ => by simp [scanL] at h
  | k + 1, s, p :: pre, rest, h, hp => by
    rw [scanL] at h
    split at h
    · cases h
    · split at h
      · rename_i h1 h2
        rw [List.cons_append] at h
        injection h with e1 e2
        have := scanL_sum k _ pre rest e2 (fun y hy => hp y (List.mem_cons_of_mem _ hy))
        have hl := read1_le h2
        rw [List.length_drop] at this
        subst e1
        simp only [sumN, List.map_cons, List.sum_cons, List.length_cons] at *
        omega
      · rename_i h1 h2
        rw [List.cons_append] at h
        injection h with e1 e2
        have := hp p (List.mem_cons_self ..)
        rw [← e1] at this
        exact absurd this h2
theorem ownsRow_slice2 {w : World} {base : Nat} {e : TypeId} {size : Nat} {v : Value} {n : Nat} {xs : List Value} (h : w.ownsRow base e size v n xs) : ∃ q c, v = .slice q n c := by
  rcases h.2 with ⟨hv, hn⟩ | ⟨g, cap, _, hv, _⟩
  · subst hn; exact ⟨_, _, hv⟩
  · exact ⟨_, _, hv⟩
theorem scanL_last : ∀ (k : Nat) (s : Bs) (pre : List (Bs × Nat × Int)) (x : Bs × Nat × Int) (rest : List (Bs × Nat × Int)), scanL k s = pre ++ x :: rest → x.2.2 ≠ 0 → rest = []
  | 0, _, pre, x, rest, h, _ => by simp [scanL] at h
  | k + 1, s, pre, x, rest, h, hx => by
    rw [scanL] at h
    split at h
    · simp at h
    · split at h
      · rename_i h1 h2
        cases pre with
        | nil => rw [List.nil_append] at h; injection h with e1 e2; rw [← e1] at hx; exact absurd h2 hx
        | cons p pre => rw [List.cons_append] at h; injection h with e1 e2; exact scanL_last k _ pre x rest e2 hx
      · cases pre with
        | nil => rw [List.nil_append] at h; injection h with e1 e2; exact e2.symm
        | cons p pre => rw [List.cons_append] at h; injection h with e1 e2; simp at e2
theorem foldE_le : ∀ (k : Nat) (s : Bs), (foldE (scanL k s)).2.1 ≤ s.length
  | 0, _ => Nat.zero_le _
  | k + 1, s => by
    rw [scanL]
    split
    · exact Nat.zero_le _
    · split
      · rename_i h1 h2
        have hl := read1_le h2
        have := foldE_le k (s.drop (read1 s).2.1)
        rw [List.length_drop] at this
        rw [foldE, if_pos h2]
        show (read1 s).2.1 + _ ≤ _
        omega
      · rename_i h1 h2
        rw [foldE, if_neg h2]; exact Nat.zero_le _
theorem scan1_le (s : Bs) : (scan1 s).2.1 ≤ s.length := foldE_le _ _
def scanM (w : World) : Nat → Obj → Prop := fun k o => k ≠ w.heap.size + 3 ∧ w.heap.size ≤ k ∧ ∃ cs t fr, o = .cells cs t fr
def goodE (l : List (Bs × Nat × Int)) : Prop := ∀ y ∈ l, y.2.2 = 0
def scanI (w : World) (W : World) (l : List Bs) (n : Nat) (e : Int) : Prop :=
  ∃ v, W.heap[w.heap.size]? = some (.cells #[v] 24 (0, 0)) ∧ W.heap[w.heap.size + 1]? = some (.cells #[.int .i64 n] 3 (0, 0)) ∧ W.heap[w.heap.size + 2]? = some (.cells #[.int .i64 e] 25 (0, 0)) ∧
    W.ownsRow w.heap.size 9 1 v l.length (cellsS l) ∧ v.ownBlock ≠ some (w.heap.size + 3) ∧ w.heap.size + 4 ≤ W.heap.size ∧ Keep nomod w W
theorem scanI_keep {w W W' : World} {l : List Bs} {n m : Nat} {e : Int} (h : scanI w W l n e) (hm : w.heap.size + 4 = m) (hk : Keep (fun k o => k = w.heap.size + 3 ∨ lr m k o) W W') : scanI w W' l n e := by
  obtain ⟨v, h0, h1, h2, ho, hv, hlt, hkw⟩ := h
  have hn : ∀ k cs t fr, k ≠ w.heap.size + 3 → ¬ (k = w.heap.size + 3 ∨ lr m k (.cells cs t fr)) := fun k cs t fr hne e => e.elim hne lr_cells
  refine ⟨v, hk.block _ _ h0 (hn _ _ _ _ (by omega)), hk.block _ _ h1 (hn _ _ _ _ (by omega)), hk.block _ _ h2 (hn _ _ _ _ (by omega)), ?_, hv, Nat.le_trans hlt hk.size, ?_⟩
  · exact ownsRow_far ho fun g cs hg hh => hk.block _ _ hh (hn _ _ _ _ (fun e => hv (by rw [hg, e])))
  · exact ⟨hk.os.trans hkw.os, hk.tape.trans hkw.tape, hk.output.trans hkw.output, Nat.le_trans hkw.size hk.size, fun k o hk' _ => hk.block _ _ (hkw.block k o hk' (fun e => e)) (fun e => by
      have := heap_lt hk'
      rcases e with e | ⟨e, _⟩ <;> omega)⟩
set_option maxRecDepth 100000 in
theorem scan_end (s : Bs) (w W : World) (D : Nat) {a : Act} {tm : Array Value} {v : Value} (ha : a.tmps = tm) (hd : a.defers = [{ target := .collected D, args := #[] }])
    (ht : ∀ k, k < 3 → tm.getD (k + 2) undef = .pointer (some ⟨w.heap.size + k, 0, none⟩))
    (h0 : W.heap[w.heap.size]? = some (.cells #[v] 24 (0, 0))) (h1 : W.heap[w.heap.size + 1]? = some (.cells #[.int .i64 (scan1 s).2.1] 3 (0, 0))) (h2 : W.heap[w.heap.size + 2]? = some (.cells #[.int .i64 (scan1 s).2.2] 25 (0, 0)))
    (ho : W.ownsRow w.heap.size 9 1 v (scan1 s).1.length (cellsS (scan1 s).1)) (hk : Keep nomod w W) (hD : w.heap.size + 4 ≤ D) (hK : W.heap[D]? = some (.deferred (some []))) :
    bodyPostM Fence.wide 5 Try.prog Try.f25 (fun e w' => (∃ v, e = .returned (.tuple #[v, .int .i64 (scan1 s).2.1, .int .i64 (scan1 s).2.2]) ∧ w'.ownsRow w.heap.size 9 1 v (scan1 s).1.length (cellsS (scan1 s).1)) ∧ Keep nomod w w') .ret a W := by
  show LeavesInM _ _ _ _ _ _ _ _ _
  rw [hd]
  refine ⟨by simp, .inl ⟨_, _, rfl, run_takeDeferred hK, ?_⟩⟩
  have hp := keep_putObj' W D (.deferred none)
  have c0 := cell_at (i := 0) (hp.block _ _ h0 (by omega)) rfl
  have c1 := cell_at (i := 0) (hp.block _ _ h1 (by omega)) rfl
  have c2 := cell_at (i := 0) (hp.block _ _ h2 (by omega)) rfl
  have ho' : (W.putObj D (.deferred none)).ownsRow w.heap.size 9 1 v (scan1 s).1.length (cellsS (scan1 s).1) := ownsRow_far ho fun g cs _ hh => hp.block _ _ hh (fun e => by subst e; rw [hK] at hh; cases hh)
  have hk' : Keep nomod w (W.putObj D (.deferred none)) := ⟨hk.os, hk.tape, hk.output, Nat.le_trans hk.size hp.size, fun k o hk' hn => hp.block _ _ (hk.block k o hk' hn) (fun e => by have := heap_lt hk'; omega)⟩
  generalize W.putObj D (.deferred none) = W' at *
  subst ha
  exact ⟨_, results_cells3 rfl _ _ (ht 0 (by decide)) (ht 1 (by decide)) (ht 2 (by decide)) (run_loadVar1 Try.underlying24 rfl c0) (run_loadVar1 Try.underlying3 rfl c1) (run_loadVar1 Try.underlying25 rfl c2), ⟨_, rfl, ho'⟩, hk'⟩
set_option maxRecDepth 100000 in
theorem scan_c (w : World) (s : Bs) (hs : s.length ≤ 4000000000) : Calls Try.prog 25 #[.string ⟨s.toArray⟩] w fun e w' =>
    (∃ v, e = .returned (.tuple #[v, .int .i64 (scan1 s).2.1, .int .i64 (scan1 s).2.2]) ∧ w'.ownsRow w.heap.size 9 1 v (scan1 s).1.length (cellsS (scan1 s).1)) ∧ Keep nomod w w' := by
  have hsum := scanL_sum s.length s
  refine (callsIn_wide (n := 5)).1 ?_
  refine callsIn_of_wp_marks Try.func25 rfl trivial ?_
  simp only [Try.ntmps25, List.size_toArray, List.length_cons, List.length_nil, Nat.reduceAdd, Nat.reduceSub, Array.replicate_succ, Array.replicate_zero, List.push_toArray, List.append_toArray, List.nil_append, List.cons_append]
  gi_wp2_with (refine ⟨trivial, ?_⟩; gi_at_call 50; refine (callsIn_wide.2 (all_c _ s)).mono ?_; rintro e w' ⟨rfl, rfl⟩)
  obtain ⟨W0, hW0⟩ : ∃ W0, ((((w.alloc (Obj.cells #[Value.slice none 0 0] 24)).alloc (Obj.cells #[Value.int IntKind.i64 0] 3)).alloc (Obj.cells #[Value.int IntKind.i64 0] 25)).alloc (Obj.cells #[Value.string { data := List.toArray s }] 9)) = W0 := ⟨_, rfl⟩
  have hsz : W0.heap.size = w.heap.size + 4 := by rw [← hW0]; simp
  have b3 : W0.heap[w.heap.size + 3]? = some (.cells #[.string ⟨s.toArray⟩] 9 (0, 0)) := by rw [← hW0]; exact heap_new_at (by simp) _
  have i0 : scanI w W0 [] 0 0 := by
    refine ⟨.slice none 0 0, ?_, ?_, ?_, World.ownsRow_nil _ _ _ _, fun e => (by cases e), by omega, ?_⟩
    · rw [← hW0]; exact heap_old (heap_old (heap_old (heap_new _ _) _) _) _
    · rw [← hW0]; exact heap_old (heap_old (heap_new_at (by simp) _) _) _
    · rw [← hW0]; exact heap_old (heap_new_at (by simp) _) _
    · rw [← hW0]; exact ((((Keep.refl _ w).alloc _).alloc _).alloc _).alloc _
  rw [hW0]
  refine wp_range 70 #[.pointer (some ⟨w.heap.size + 3, 0, none⟩)] rfl (enters_of Try.func70 (by kernel_rfl) rfl) (all1_c W0 (w.heap.size + 3) s (by omega) b3) (fun _ => rfl)
    (scanM w) (fun cs t fr e => e.elim (fun e => e.1 rfl) lr_cells) (fun k e => by omega) (fun k o _ e => e.2.2)
    (fun pre W => goodE pre ∧ scanI w W (pre.map (·.1)) (sumN pre) 0) (fun c _ W => c = .ret ∧ scanI w W (scan1 s).1 (scan1 s).2.1 (scan1 s).2.2)
    (fun pre W W' h hk => ⟨h.1, scanI_keep h.2 hsz.symm hk⟩) (fun c pre W W' h hk => ⟨h.1, scanI_keep h.2 hsz.symm hk⟩) ⟨fun y hy => (by cases hy), i0⟩ ?round ?done ?stop
  case round =>
    rintro l pre ⟨xt, xn, xe⟩ rest W hl hlt hx ⟨hp, hi⟩
    dsimp only [enc3]
    gi_wp2
    refine ⟨(Keep.refl _ _).alloc _, ?_⟩
    intro W2 hk2 hs2
    have hx2 := hk2.block _ _ (heap_new W _) lr_cells
    have hi2 := scanI_keep (scanI_keep hi hsz.symm ((Keep.refl _ W).alloc (.cells #[.string ⟨xt.toArray⟩, .int .i64 xn, .int .i64 xe] 97))) hsz.symm (hk2.mono fun _ _ e => .inr e)
    rw [World.size_alloc] at hs2
    have hlw : w.heap.size + 4 ≤ W.heap.size := by obtain ⟨v, _, _, _, _, _, hlt, _⟩ := hi; exact hlt
    generalize hX : W.heap.size = X at *
    clear hi hk2 hX hlt
    obtain ⟨v, h0, h1, h2, ho, hv, hlt, hkw⟩ := hi2
    obtain ⟨q, c, rfl⟩ := ownsRow_slice2 ho
    have cx := cell_at hx2 (i := 2) rfl
    by_cases he : xe = 0
    · subst he
      have hp2 : goodE (pre ++ [(xt, xn, 0)]) := by
        intro y hy
        rcases List.mem_append.1 hy with hy | hy
        · exact hp y hy
        · simp at hy; subst hy; rfl
      have hm2 := hsum (pre ++ [(xt, xn, 0)]) rest (by rw [hx]; simp) hp2
      rw [sumN_snoc] at hm2
      have hml := hsum pre ((xt, xn, 0) :: rest) hx hp
      dsimp only at hm2
      gi_wp2
      refine round_region_moves2 (fun k W => (k = 0 → W.heap[w.heap.size]? = some (.cells #[.slice q (pre.map (·.1)).length c] 24 (0, 0))) ∧ W.heap[w.heap.size + 1]? = some (.cells #[.int .i64 (sumN pre)] 3 (0, 0)) ∧ W.heap[X]? = some (.cells #[.string ⟨xt.toArray⟩, .int .i64 xn, .int .i64 0] 97 (0, 0)))
        [(0, none), (1, none), (2, none), (5, none), (6, none), (7, none), (8, none), (3, some [0, 5, 6, 7, 8]), (4, some [5, 6, 7, 8]), (9, some [5, 6, 7, 8]), (10, some [])] (fun ⟨_, _, h⟩ => h) (by kernel_rfl) (by kernel_rfl) (by kernel_rfl) (by kernel_rfl) (fun _ _ _ _ _ h => h) (fun _ => ⟨fun _ => h0, h1, hx2⟩) ?_
      simp only [movesOps2, List.getElem?_toArray, List.getElem?_cons_zero, List.getElem?_cons_succ]
      refine m2_still (.slice q (pre.map (·.1)).length c) rfl (fun W hS => by have d := cell_at (hS.1 rfl) (i := 0) rfl; go_simp) ?_
      simp only [Act.put, List.setIfInBounds_toArray, List.set_cons_succ, List.set_cons_zero]
      refine m2_still (.pointer (some ⟨X, 0, none⟩)) rfl (fun W hS => by go_simp) ?_
      simp only [Act.put, List.setIfInBounds_toArray, List.set_cons_succ, List.set_cons_zero]
      refine m2_still (.string ⟨xt.toArray⟩) rfl (fun W hS => by have d := cell_at hS.2.2 (i := 0) rfl; go_simp) ?_
      simp only [Act.put, List.setIfInBounds_toArray, List.set_cons_succ, List.set_cons_zero]
      refine m2_still (.int .i64 (sumN pre)) rfl (fun W hS => by have d := cell_at hS.2.1 (i := 0) rfl; go_simp) ?_
      simp only [Act.put, List.setIfInBounds_toArray, List.set_cons_succ, List.set_cons_zero]
      refine m2_still (.pointer (some ⟨X, 1, none⟩)) rfl (fun W hS => by go_simp) ?_
      simp only [Act.put, List.setIfInBounds_toArray, List.set_cons_succ, List.set_cons_zero]
      refine m2_still (.int .i64 xn) rfl (fun W hS => by have d := cell_at hS.2.2 (i := 1) rfl; go_simp) ?_
      simp only [Act.put, List.setIfInBounds_toArray, List.set_cons_succ, List.set_cons_zero]
      refine m2_still (.int .i64 ((sumN pre : Int) + xn)) rfl (fun W hS => by go_simp; exact wrap_in _ (by omega)) ?_
      simp only [Act.put, List.setIfInBounds_toArray, List.set_cons_succ, List.set_cons_zero]
      refine m2_run rfl (fun K hK => wp_value (exec_buildSlice1 rfl rfl (run_slice_str _ _)) (hK _ _ (fun _ _ => ⟨fun _ => heap_old (w := W2.drew) h0 _, heap_old (w := W2.drew) h1 _, heap_old (w := W2.drew) hx2 _⟩) ?_))
      simp only [Act.put, List.setIfInBounds_toArray, List.set_cons_succ, List.set_cons_zero]
      have ho3 : (W2.drew.alloc (.cells #[.string ⟨xt.toArray⟩] 9)).ownsRow w.heap.size 9 1 (.slice q (pre.map (·.1)).length c) (pre.map (·.1)).length (cellsS (pre.map (·.1))) := World.ownsRow.alloc (w := W2.drew) ho _
      have g0 := heap_old (w := W2.drew) h0 (.cells #[.string ⟨xt.toArray⟩] 9)
      have g1 := heap_old (w := W2.drew) h1 (.cells #[.string ⟨xt.toArray⟩] 9)
      have g2 := heap_old (w := W2.drew) h2 (.cells #[.string ⟨xt.toArray⟩] 9)
      have gx := heap_old (w := W2.drew) hx2 (.cells #[.string ⟨xt.toArray⟩] 9)
      have gs : (W2.drew.alloc (.cells #[.string ⟨xt.toArray⟩] 9)).heap.size = W2.heap.size + 1 := by simp
      have gn := heap_new W2.drew (.cells #[.string ⟨xt.toArray⟩] 9)
      have gk : Keep (scanM w) W2 (W2.drew.alloc (.cells #[.string ⟨xt.toArray⟩] 9)) := ((Keep.refl _ W2).drew).alloc _
      have gk0 : Keep nomod w (W2.drew.alloc (.cells #[.string ⟨xt.toArray⟩] 9)) := (hkw.drew).alloc _
      generalize W2.drew.alloc (.cells #[.string ⟨xt.toArray⟩] 9) = W3 at *
      refine m2_run rfl (fun K hK => append_str rfl _ _ _ rfl w.heap.size (.slice q (pre.map (·.1)).length c) (pre.map (·.1)) rfl ho3 _ xt rfl gn (by rw [List.length_map]; omega) (by omega) ?_)
      intro g cap W4 ho4 hg4 hgg hglt
      have fx := grown_cells ho3 hg4 gx (by decide)
      have f0 := grown_cells ho3 hg4 g0 (by decide)
      have f1 := grown_cells ho3 hg4 g1 (by decide)
      have f2 := grown_cells ho3 hg4 g2 (by decide)
      refine hK _ _ (fun _ _ => ⟨fun _ => f0, f1, fx⟩) ?_
      clear hK
      simp only [Act.put, List.setIfInBounds_toArray, List.set_cons_succ, List.set_cons_zero]
      have fk0 : Keep nomod w W4 := gk0.grown hg4 (fun k o e hk => absurd (heap_lt hk) (by have := (ho3.lt k e).1; omega))
      have fk : Keep (scanM w) W2 W4 := gk.grown hg4 (fun k o e hk => by
        refine ⟨fun e' => hv (e.trans (by rw [e'])), (ho3.lt k e).1, ?_⟩
        obtain ⟨cs, hcs⟩ := ownsRow_block ho e
        rw [hcs] at hk; cases hk; exact ⟨_, _, _, rfl⟩)
      have hgne : g ≠ w.heap.size + 3 := fun e => by
        rcases hgg with h | h
        · exact hv (by rw [h, e])
        · omega
      refine m2_store rfl 24 _ _ rfl w.heap.size 0 rfl (.slice (some ⟨g, 0, none⟩) ((pre.map (·.1)).length + 1) cap) rfl rfl (by kernel_rfl) f0 (by simp) ?_
      intro W5 p5
      refine ⟨fun k hk => ⟨fun e => (by subst e; simp at hk), p5.far f1 (by omega), p5.far fx (by omega)⟩, ?_⟩
      simp only [Act.put, List.setIfInBounds_toArray, List.set_cons_succ, List.set_cons_zero]
      refine m2_store rfl 3 _ _ rfl (w.heap.size + 1) 0 rfl (.int .i64 ((sumN pre : Int) + xn)) rfl rfl (by kernel_rfl) (p5.far f1 (by omega)) (by simp) ?_
      intro W6 p6
      refine ⟨fun k hk => (by cases hk), ?_⟩
      simp only [Act.put, List.setIfInBounds_toArray, List.set_cons_succ, List.set_cons_zero]
      refine m2_end ?_
      have hfin : scanI w W6 ((pre ++ [(xt, xn, (0 : Int))]).map (·.1)) (sumN (pre ++ [(xt, xn, (0 : Int))])) 0 := by
        refine ⟨.slice (some ⟨g, 0, none⟩) ((pre.map (·.1)).length + 1) cap, p6.far (p5.same1 f0) (by omega), ?_, p6.far (p5.far f2 (by omega)) (by omega), ?_, ?_, ?_, ?_⟩
        · rw [p6.same1 (p5.far f1 (by omega)), sumN_snoc]; rfl
        · rw [List.map_append, List.length_append] at *
          exact p6.row (p5.row ho4 f0 (by decide)) (p5.far f1 (by omega)) (by decide)
        · exact fun e => hgne (by cases e; rfl)
        · rw [p6.size, p5.size]; have := hg4.size; omega
        · exact p6.keepNew (p5.keepNew fk0 (Nat.le_refl _)) (Nat.le_succ _)
      have hkf : Keep (scanM w) W2 W6 :=
        p6.keep (p5.keep fk (fun o ho => by rw [h0] at ho; cases ho; exact ⟨by omega, Nat.le_refl _, _, _, _, rfl⟩)) (fun o ho => by rw [h1] at ho; cases ho; exact ⟨by omega, by omega, _, _, _, rfl⟩)
      gi_wp2
      exact ⟨hkf, hp2, hfin⟩
    · gi_wp2
      refine round_region_moves2 (fun k W => (k = 0 → W.heap[w.heap.size]? = some (.cells #[.slice q (pre.map (·.1)).length c] 24 (0, 0))) ∧ (k = 1 → W.heap[w.heap.size + 1]? = some (.cells #[.int .i64 (sumN pre)] 3 (0, 0))) ∧ W.heap[X]? = some (.cells #[.string ⟨xt.toArray⟩, .int .i64 xn, .int .i64 xe] 97 (0, 0))) [(0, none), (1, none), (2, none), (3, none), (4, some [1, 2, 3]), (5, some [2, 3]), (6, some [])] (fun ⟨_, _, h⟩ => h) (by kernel_rfl) (by kernel_rfl) (by kernel_rfl) (by kernel_rfl) (fun _ _ _ _ _ h => h) (fun _ => ⟨fun _ => h0, fun _ => h1, hx2⟩) ?_
      simp only [movesOps2, List.getElem?_toArray, List.getElem?_cons_zero, List.getElem?_cons_succ]
      refine m2_still (.slice q (pre.map (·.1)).length c) rfl (fun W hS => by have d := cell_at (hS.1 rfl) (i := 0) rfl; go_simp) ?_
      simp only [Act.put, List.setIfInBounds_toArray, List.set_cons_succ, List.set_cons_zero]
      refine m2_still (.int .i64 (sumN pre)) rfl (fun W hS => by have d := cell_at (hS.2.1 rfl) (i := 0) rfl; go_simp) ?_
      simp only [Act.put, List.setIfInBounds_toArray, List.set_cons_succ, List.set_cons_zero]
      refine m2_still (.pointer (some ⟨X, 2, none⟩)) rfl (fun W hS => by go_simp) ?_
      simp only [Act.put, List.setIfInBounds_toArray, List.set_cons_succ, List.set_cons_zero]
      refine m2_still (.int .i64 xe) rfl (fun W hS => by have d := cell_at hS.2.2 (i := 2) rfl; go_simp) ?_
      simp only [Act.put, List.setIfInBounds_toArray, List.set_cons_succ, List.set_cons_zero]
      refine m2_store rfl 24 _ _ rfl w.heap.size 0 rfl (.slice q (pre.map (·.1)).length c) rfl rfl (by kernel_rfl) (w := W2.drew) h0 (by simp) ?_
      intro W5 p5
      refine ⟨fun k hk => ⟨fun e => (by subst e; simp at hk), fun _ => p5.far (k := w.heap.size + 1) h1 (by omega), p5.far (k := X) hx2 (by omega)⟩, ?_⟩
      simp only [Act.put, List.setIfInBounds_toArray, List.set_cons_succ, List.set_cons_zero]
      refine m2_store rfl 3 _ _ rfl (w.heap.size + 1) 0 rfl (.int .i64 (sumN pre)) rfl rfl (by kernel_rfl) (p5.far (k := w.heap.size + 1) h1 (by omega)) (by simp) ?_
      intro W6 p6
      refine ⟨fun k hk => ⟨fun e => (by subst e; simp at hk), fun e => (by subst e; simp at hk), p6.far (p5.far (k := X) hx2 (by omega)) (by omega)⟩, ?_⟩
      simp only [Act.put, List.setIfInBounds_toArray, List.set_cons_succ, List.set_cons_zero]
      refine m2_store rfl 25 _ _ rfl (w.heap.size + 1 + 1) 0 rfl (.int .i64 xe) rfl rfl (by kernel_rfl) (p6.far (p5.far (k := w.heap.size + 2) h2 (by omega)) (by omega)) (by simp) ?_
      intro W7 p7
      refine ⟨fun k hk => (by cases hk), ?_⟩
      simp only [Act.put, List.setIfInBounds_toArray, List.set_cons_succ, List.set_cons_zero]
      refine m2_end ?_
      have hrest : rest = [] := scanL_last s.length s pre _ rest hx he
      have hs1 : scan1 s = (pre.map (·.1), sumN pre, xe) := by
        unfold scan1
        rw [hx, foldE_good pre _ hp, foldE, if_neg he]; simp
      have hfin : scanI w W7 (scan1 s).1 (scan1 s).2.1 (scan1 s).2.2 := by
        rw [hs1]
        have y0 := p5.same1 (w := W2.drew) h0
        have y1 := p6.same1 (p5.far (w := W2.drew) h1 (by omega))
        have y2 := p7.same1 (p6.far (p5.far (w := W2.drew) h2 (by omega)) (by omega))
        refine ⟨.slice q (pre.map (·.1)).length c, p7.far (p6.far y0 (by omega)) (by omega), p7.far y1 (by omega), y2, ?_, hv, ?_, ?_⟩
        · exact p7.row (p6.row (p5.row (w := W2.drew) ho h0 (by decide)) (p5.far (w := W2.drew) h1 (by omega)) (by decide)) (p6.far (p5.far (w := W2.drew) h2 (by omega)) (by omega)) (by decide)
        · rw [p7.size, p6.size, p5.size]; exact hlt
        · exact p7.keepNew (p6.keepNew (p5.keepNew hkw.drew (Nat.le_refl _)) (by omega)) (by omega)
      have hkf : Keep (scanM w) W2 W7 :=
        p7.keep (p6.keep (p5.keep (Keep.refl _ W2).drew (fun o ho => by rw [h0] at ho; cases ho; exact ⟨by omega, Nat.le_refl _, _, _, _, rfl⟩)) (fun o ho => by rw [h1] at ho; cases ho; exact ⟨by omega, by omega, _, _, _, rfl⟩))
          (fun o ho => by rw [h2] at ho; cases ho; exact ⟨by omega, by omega, _, _, _, rfl⟩)
      gi_wp2
      exact ⟨hkf, rfl, hfin⟩
  case done =>
    rintro D W hD ⟨hp, hi⟩ hK
    have hs1 : scan1 s = ((scanL s.length s).map (·.1), sumN (scanL s.length s), 0) := by
      unfold scan1
      have := foldE_good (scanL s.length s) [] hp
      rw [List.append_nil] at this
      rw [this]; simp [foldE]
    generalize scanL s.length s = xs at *
    obtain ⟨v, h0, h1, h2, ho, hv, hlt, hkw⟩ := hi
    obtain ⟨q, c, rfl⟩ := ownsRow_slice2 ho
    gi_wp2
    refine wide_region_moves2 (fun k W => (k = 0 → W.heap[w.heap.size]? = some (.cells #[.slice q (xs.map (·.1)).length c] 24 (0, 0))) ∧ W.heap[w.heap.size + 1]? = some (.cells #[.int .i64 (sumN xs)] 3 (0, 0)))
      [(0, none), (1, none), (2, some [1]), (3, some []), (4, some [])] (by kernel_rfl) (by kernel_rfl) (by kernel_rfl) (fun _ => ⟨fun _ => h0, h1⟩) ?_
    simp only [movesOps2, List.getElem?_toArray, List.getElem?_cons_zero, List.getElem?_cons_succ]
    refine m2_still (.slice q (xs.map (·.1)).length c) rfl (fun W hS => by have d := cell_at (hS.1 rfl) (i := 0) rfl; go_simp) ?_
    simp only [Act.put, List.setIfInBounds_toArray, List.set_cons_succ, List.set_cons_zero]
    refine m2_still (.int .i64 (sumN xs)) rfl (fun W hS => by have d := cell_at hS.2 (i := 0) rfl; go_simp) ?_
    simp only [Act.put, List.setIfInBounds_toArray, List.set_cons_succ, List.set_cons_zero]
    refine m2_store rfl 24 _ _ rfl w.heap.size 0 rfl (.slice q (xs.map (·.1)).length c) rfl rfl (by kernel_rfl) (w := W.drew) h0 (by simp) ?_
    intro W5 p5
    refine ⟨fun k hk => ⟨fun e => (by subst e; simp at hk), p5.far (k := w.heap.size + 1) h1 (by omega)⟩, ?_⟩
    simp only [Act.put, List.setIfInBounds_toArray, List.set_cons_succ, List.set_cons_zero]
    refine m2_store rfl 3 _ _ rfl (w.heap.size + 1) 0 rfl (.int .i64 (sumN xs)) rfl rfl (by kernel_rfl) (p5.far (k := w.heap.size + 1) h1 (by omega)) (by simp) ?_
    intro W6 p6
    refine ⟨fun k hk => (by cases hk), ?_⟩
    simp only [Act.put, List.setIfInBounds_toArray, List.set_cons_succ, List.set_cons_zero]
    refine m2_store rfl 25 _ _ rfl (w.heap.size + 1 + 1) 0 rfl (.int .i64 0) rfl rfl (by kernel_rfl) (p6.far (p5.far (k := w.heap.size + 2) h2 (by omega)) (by omega)) (by simp) ?_
    intro W7 p7
    refine ⟨fun k hk => (by cases hk), ?_⟩
    simp only [Act.put, List.setIfInBounds_toArray, List.set_cons_succ, List.set_cons_zero]
    refine m2_end ?_
    have y0 := p7.far (p6.far (p5.same1 (w := W.drew) h0) (by omega)) (by omega)
    have y1 := p7.far (p6.same1 (p5.far (w := W.drew) h1 (by omega))) (by omega)
    have y2 := p7.same1 (p6.far (p5.far (w := W.drew) h2 (by omega)) (by omega))
    have hK7 := p7.far (p6.far (p5.far (w := W.drew) hK (by omega)) (by omega)) (by omega)
    have hro := p7.row (p6.row (p5.row (w := W.drew) ho h0 (by decide)) (p5.far (w := W.drew) h1 (by omega)) (by decide)) (p6.far (p5.far (w := W.drew) h2 (by omega)) (by omega)) (by decide)
    have hk7 := p7.keepNew (p6.keepNew (p5.keepNew hkw.drew (Nat.le_refl _)) (by omega)) (by omega)
    gi_wp2
    exact scan_end s w W7 D rfl rfl (fun k hk => by rcases k with _ | _ | _ | k <;> first | rfl | omega) y0 (by rw [hs1]; exact y1) (by rw [hs1]; exact y2) (by rw [hs1]; exact hro) hk7 (by omega) hK7
  case stop =>
    rintro D c pre W hD ⟨rfl, hi⟩ hK
    obtain ⟨v, h0, h1, h2, ho, hv, hlt, hkw⟩ := hi
    gi_wp2
    exact scan_end s w W D rfl rfl (fun k hk => by rcases k with _ | _ | _ | k <;> first | rfl | omega) h0 h1 h2 ho hkw (by omega) hK
end Go.Proofs.Ytimfgeklnlnniaa
