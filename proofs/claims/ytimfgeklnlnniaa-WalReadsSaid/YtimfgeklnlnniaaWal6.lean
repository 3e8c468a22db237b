/- The log, part 6: the blocks as they are, and as they are counted. -/
import Derived.Test.YtimfgeklnlnniaaWal5
import Derived.Test.YtimfgeklnlnniaaScan
namespace Go.Proofs.Ytimfgeklnlnniaa
set_option linter.unusedVariables false
set_option linter.unusedSimpArgs false
open Go.RowKit Go.Shelf
/-- a slice of texts lies in a box -/
structure StrsAt (W : World) (bl g cap : Nat) (cs : Array Value) (l : List Bs) : Prop where
  box : W.heap[bl]? = some (.cells #[.slice (some ⟨g, 0, none⟩) l.length cap] 24 (0, 0))
  row : W.heap[g]? = some (.cells cs 9 (0, 0))
  cell : ∀ (j : Nat) (x : Bs), l[j]? = some x → cs[j]? = some (Value.string ⟨x.toArray⟩)
theorem StrsAt.keep {W W' : World} {bl g cap : Nat} {cs : Array Value} {l : List Bs} {M : Nat → Obj → Prop} (h : StrsAt W bl g cap cs l) (hk : Keep M W W') (h1 : ∀ cs fr, ¬ M bl (.cells cs 24 fr)) (h2 : ∀ cs fr, ¬ M g (.cells cs 9 fr)) : StrsAt W' bl g cap cs l :=
  ⟨hk.block _ _ h.box (h1 _ _), hk.block _ _ h.row (h2 _ _), h.cell⟩
set_option maxRecDepth 100000 in
theorem open1_c (w : World) (bl g cap : Nat) (cs : Array Value) (l : List Bs) (h : StrsAt w bl g cap cs l) (k : Nat) (hk : k < l.length) (hl : l.length ≤ 1000000) :
    Calls Try.prog 27 #[.int .i64 k, .pointer (some ⟨bl, 0, none⟩)] w fun e w' => e = .returned (.string ⟨(l.getD k []).toArray⟩) ∧ w = w' := by
  have hc := cell_at (i := 0) h.box rfl
  obtain ⟨x, hx⟩ : ∃ x, l.getD k [] = x := ⟨_, rfl⟩
  have hx' : l[k]? = some x := by
    rw [List.getD_eq_getElem?_getD, List.getElem?_eq_getElem hk] at hx
    rw [List.getElem?_eq_getElem hk, ← hx]; rfl
  have hd := cell_at (i := k) h.row (h.cell k x hx')
  rw [hx]
  generalize l.length = n at *
  clear h hx hx'
  go_enter Try.func27, Try.ntmps27
  go_wp2
  go_ret
  exact ⟨rfl, rfl⟩
theorem blocks_at (l : List Bs) (hl : ∀ x ∈ l, x.length = 256) (k : Nat) (hk : k < l.length) : (l.getD k []).length = 256 := by
  rw [List.getD_eq_getElem?_getD, List.getElem?_eq_getElem hk]
  exact hl _ (List.getElem_mem hk)
/-- the k-th block, its last byte as it is wanted -/
def countB (l : List Bs) (s : Bs) (k : Nat) : Bs := (l.getD k []).take 255 ++ (laidB s k).drop 255
set_option maxRecDepth 100000 in
theorem open2_c (w : World) (bl g cap : Nat) (cs : Array Value) (l : List Bs) (h : StrsAt w bl g cap cs l) (k : Nat) (hk : k < l.length) (hl : l.length ≤ 1000000) (hlen : ∀ x ∈ l, x.length = 256) (bw bs : Nat) (s : Bs) (hs : s.length ≤ 1000000000)
    (hw : w.heap[bw]? = some (.cells #[.func (.func 51) #[] #[.pointer (some ⟨bs, 0, none⟩)]] 64 (0, 0))) (hb : w.heap[bs]? = some (.cells #[.string ⟨s.toArray⟩] 9 (0, 0))) :
    Calls Try.prog 28 #[.int .i64 k, .pointer (some ⟨bl, 0, none⟩), .pointer (some ⟨bw, 0, none⟩)] w fun e w' => e = .returned (.string ⟨(countB l s k).toArray⟩) ∧ Keep nomod w w' := by
  have hxl := blocks_at l hlen k hk
  have HC : Hid (countB l s k = (l.getD k []).take 255 ++ (laidB s k).drop 255) := rfl
  have Hla := Lib.hid (fun W h => laid1_c W bs s k hs (by omega) h)
  have hll := length_laidB s k
  obtain ⟨x, hx⟩ : ∃ x, l.getD k [] = x := ⟨_, rfl⟩
  have hx' : l[k]? = some x := by
    rw [List.getD_eq_getElem?_getD, List.getElem?_eq_getElem hk] at hx
    rw [List.getElem?_eq_getElem hk, ← hx]; rfl
  have hd := h.cell k x hx'
  rw [hx] at HC hxl
  have hbox := h.box
  have hrow := h.row
  generalize countB l s k = res at *
  generalize laidB s k = la at *
  generalize l.length = n at *
  clear h hx hx' hlen
  have X1 := Lib.hid (fun W => run_sl_to (P := Try.prog) W 9 Try.underlying9 x .i64 255 (by omega))
  have X2 := Lib.hid (fun W => run_sl_from (P := Try.prog) W 9 Try.underlying9 la .i64 255 (by omega))
  have hp1 : (x.take 255).length = 255 := by rw [List.length_take]; omega
  have hp2 : (la.drop 255).length = 1 := by rw [List.length_drop]; omega
  generalize x.take 255 = p1 at *
  generalize la.drop 255 = p2 at *
  have hba : (⟨p1.toArray⟩ : ByteArray) ++ (⟨p2.toArray⟩ : ByteArray) = ⟨(p1 ++ p2).toArray⟩ := ba_append _ _
  go_enter Try.func28, Try.ntmps28
  go_wp2
  refine wp_region_mv (fun _ W => W.heap[bl]? = some (.cells #[.slice (some ⟨g, 0, none⟩) n cap] 24 (0, 0)) ∧ W.heap[g]? = some (.cells cs 9 (0, 0)) ∧ W.heap[bw]? = some (.cells #[.func (.func 51) #[] #[.pointer (some ⟨bs, 0, none⟩)]] 64 (0, 0)))
    (.still 0 (.still 1 (.still 2 (.still 3 (.still 4 (.still 5 (.still 6 (.act 7 [0, 1, 2, 3, 4, 8, 9] (.still 8 (.still 9 (.act 10 [] (.fin))))))))))))
    (by kernel_rfl) (by kernel_rfl) (by kernel_rfl) (fun _ _ _ _ _ h => h) (fun _ => ⟨hbox, hrow, hw⟩) ?_
  refine m3_still _ (.slice (some ⟨g, 0, none⟩) n cap) rfl rfl (fun W hS => by have d := cell_at hS.1 (i := 0) rfl; go_simp) ?_
  simp only [List.getElem_toArray, List.getElem_cons_succ, List.getElem_cons_zero, Act.put, List.setIfInBounds_toArray, List.set_cons_succ, List.set_cons_zero]
  refine m3_still _ (.int .i64 k) rfl rfl (fun W hS => by go_simp) ?_
  simp only [List.getElem_toArray, List.getElem_cons_succ, List.getElem_cons_zero, Act.put, List.setIfInBounds_toArray, List.set_cons_succ, List.set_cons_zero]
  refine m3_still _ (.pointer (some ⟨g, k, none⟩)) rfl rfl (fun W hS => by go_simp) ?_
  simp only [List.getElem_toArray, List.getElem_cons_succ, List.getElem_cons_zero, Act.put, List.setIfInBounds_toArray, List.set_cons_succ, List.set_cons_zero]
  refine m3_still _ (.string ⟨x.toArray⟩) rfl rfl (fun W hS => by have d := cell_at hS.2.1 (i := k) hd; go_simp) ?_
  simp only [List.getElem_toArray, List.getElem_cons_succ, List.getElem_cons_zero, Act.put, List.setIfInBounds_toArray, List.set_cons_succ, List.set_cons_zero]
  refine m3_still _ (.string ⟨p1.toArray⟩) rfl rfl (fun W hS => by exact exec_v (X1.out W)) ?_
  simp only [List.getElem_toArray, List.getElem_cons_succ, List.getElem_cons_zero, Act.put, List.setIfInBounds_toArray, List.set_cons_succ, List.set_cons_zero]
  refine m3_still _ (.func (.func 51) #[] #[.pointer (some ⟨bs, 0, none⟩)]) rfl rfl (fun W hS => by have d := cell_at hS.2.2 (i := 0) rfl; go_simp) ?_
  simp only [List.getElem_toArray, List.getElem_cons_succ, List.getElem_cons_zero, Act.put, List.setIfInBounds_toArray, List.set_cons_succ, List.set_cons_zero]
  refine m3_still _ (.int .i64 k) rfl rfl (fun W hS => by go_simp) ?_
  simp only [List.getElem_toArray, List.getElem_cons_succ, List.getElem_cons_zero, Act.put, List.setIfInBounds_toArray, List.set_cons_succ, List.set_cons_zero]
  refine m3_act _ rfl rfl (fun K hK => ?_)
  simp only [List.getElem_toArray, List.getElem_cons_succ, List.getElem_cons_zero, Act.put, List.setIfInBounds_toArray, List.set_cons_succ, List.set_cons_zero]
  go_simp
  go_at_call 51
  refine (Hla.out w.drew hb).mono ?_
  rintro e w1 ⟨rfl, hk1⟩
  refine hK _ _ (fun _ _ => ⟨hk1.block bl _ hbox (fun e => e), hk1.block g _ hrow (fun e => e), hk1.block bw _ hw (fun e => e)⟩) ?_
  clear hK
  try simp only [List.getElem_toArray, List.getElem_cons_succ, List.getElem_cons_zero, Act.put, List.setIfInBounds_toArray, List.set_cons_succ, List.set_cons_zero]
  refine m3_still _ (.string ⟨p2.toArray⟩) rfl rfl (fun W hS => by exact exec_v (X2.out W)) ?_
  simp only [List.getElem_toArray, List.getElem_cons_succ, List.getElem_cons_zero, Act.put, List.setIfInBounds_toArray, List.set_cons_succ, List.set_cons_zero]
  refine m3_still _ (.string ⟨(p1 ++ p2).toArray⟩) rfl rfl (fun W hS => by go_simp <;> omega) ?_
  simp only [List.getElem_toArray, List.getElem_cons_succ, List.getElem_cons_zero, Act.put, List.setIfInBounds_toArray, List.set_cons_succ, List.set_cons_zero]
  refine m3_act _ rfl rfl (fun K hK => ?_)
  simp only [List.getElem_toArray, List.getElem_cons_succ, List.getElem_cons_zero, Act.put, List.setIfInBounds_toArray, List.set_cons_succ, List.set_cons_zero]
  go_simp
  refine hK _ _ (fun _ h => (by cases h)) ?_
  clear hK
  refine m3_end ?_
  go_wp2
  go_ret
  exact ⟨by rw [HC.out]; rfl, (Keep.refl _ w).drew.trans hk1⟩
end Go.Proofs.Ytimfgeklnlnniaa
