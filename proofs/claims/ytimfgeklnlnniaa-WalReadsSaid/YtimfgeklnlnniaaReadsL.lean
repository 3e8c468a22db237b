/- The log on a disk that runs: what Append and Open come to. No statement of the seat is proved here. -/
import Derived.Test.YtimfgeklnlnniaaWal11
namespace Go.Proofs.Ytimfgeklnlnniaa
set_option linter.unusedVariables false
set_option linter.unusedSimpArgs false
set_option linter.unusedSectionVars false
variable [Floor]
/-- what block i holds -/
def DK.view (D : DK) (i : Nat) : Bs := (lastOf D.L i).getD (D.S.getD i [])
theorem lastOf_append (L M : List (Nat × Bs)) (i : Nat) : lastOf (L ++ M) i = (lastOf M i).or (lastOf L i) := by
  unfold lastOf
  rw [List.reverse_append, List.find?_append]
  cases M.reverse.find? (fun x => x.1 == i) <;> simp
theorem lastOf_one (x : Nat × Bs) (i : Nat) : lastOf [x] i = if x.1 = i then some x.2 else none := by
  unfold lastOf
  by_cases h : x.1 = i <;> simp [h]
theorem lastOf_nil (i : Nat) : lastOf [] i = none := rfl
theorem view_app (D : DK) (M : List (Nat × Bs)) (i : Nat) : ({ D with L := D.L ++ M } : DK).view i = (lastOf M i).getD (D.view i) := by
  unfold DK.view
  simp only [lastOf_append]
  cases lastOf M i <;> simp
theorem syncS_getD : ∀ (L : List (Nat × Bs)) (S : List Bs) (i : Nat), i < S.length → (syncS S L).getD i [] = (lastOf L i).getD (S.getD i [])
  | [], S, i, _ => rfl
  | x :: L, S, i, h => by
    have ih := syncS_getD L (S.set x.1 x.2) i (by simpa using h)
    show (syncS (S.set x.1 x.2) L).getD i [] = _
    rw [ih, show x :: L = [x] ++ L from rfl, lastOf_append, lastOf_one]
    cases hL : lastOf L i with
    | some y => simp
    | none =>
      by_cases hx : x.1 = i
      · subst hx; simp [h]
      · rw [if_neg hx]; simp [List.getD, List.getElem?_set_ne hx]
theorem tick_up {D : DK} (h : D.fuse = none) : D.tick = D := by cases D; simp_all [DK.tick]
theorem down_up {D : DK} (h : D.fuse = none) : D.down = false := by unfold DK.down; rw [h]; rfl
theorem write_up {D : DK} (h : D.fuse = none) {i : Nat} (hi : i < D.S.length) {s : Bs} (hs : s.length = 256) : D.write (i : Int) s = ({ D with L := D.L ++ [(i, s)] }, 0) := by
  have h0 : thereB D i = 0 := by unfold thereB; rw [down_up h]; simp; omega
  unfold DK.write
  rw [if_pos h0, if_pos hs, DK.wrote, tick_up h]
  rfl
def shN (frm : Nat) (l : List (Nat × Bs)) : List (Nat × Bs) := l.map fun x => (frm + x.1, x.2)
theorem writesK_up (frm : Nat) : ∀ (l : List (Nat × Bs)) (D : DK), D.fuse = none → (∀ x ∈ l, frm + x.1 < D.S.length ∧ x.2.length = 256) → writesK D (shiftL frm l) = ({ D with L := D.L ++ shN frm l }, 0)
  | [], D, _, _ => by cases D; simp [writesK, shiftL, shN]
  | x :: l, D, hf, hl => by
    have h1 := hl x (List.mem_cons_self ..)
    have ih := writesK_up frm l { D with L := D.L ++ [(frm + x.1, x.2)] } hf (fun y hy => hl y (List.mem_cons_of_mem _ hy))
    have e : wr1 (D, 0) ((frm : Int) + (x.1 : Int), x.2) = ({ D with L := D.L ++ [(frm + x.1, x.2)] }, 0) := by
      unfold wr1
      rw [if_pos rfl]
      have := write_up hf h1.1 h1.2
      rw [Int.natCast_add] at this
      exact this
    show (shiftL frm l).foldl wr1 (wr1 (D, 0) ((frm : Int) + (x.1 : Int), x.2)) = _
    rw [e]
    refine Eq.trans (show _ = writesK { D with L := D.L ++ [(frm + x.1, x.2)] } (shiftL frm l) from rfl) ?_
    rw [ih]
    simp [shN]
theorem diffs_mem (A F : Nat → Bs) : ∀ n, ∀ x ∈ diffs A F n, x.1 < n ∧ x.2 = F x.1
  | 0, x, hx => by cases hx
  | n + 1, x, hx => by
    rw [diffs] at hx
    rcases List.mem_append.1 hx with hx | hx
    · have := diffs_mem A F n x hx; exact ⟨Nat.lt_succ_of_lt this.1, this.2⟩
    · unfold diff1 at hx
      split at hx
      · cases hx
      · simp at hx; subst hx; exact ⟨Nat.lt_succ_self _, rfl⟩
theorem lastOf_diffs (A F : Nat → Bs) (frm i : Nat) : ∀ n, lastOf (shN frm (diffs A F n)) (frm + i) = if i < n ∧ A i ≠ F i then some (F i) else none
  | 0 => by simp [diffs, shN, lastOf_nil]
  | n + 1 => by
    rw [diffs, shN, List.map_append, lastOf_append]
    have ih := lastOf_diffs A F frm i n
    unfold shN at ih
    rw [ih]
    unfold diff1
    by_cases hn : A n = F n
    · rw [if_pos hn]
      simp only [List.map_nil, lastOf_nil, Option.none_or]
      by_cases hi : i = n
      · subst hi; simp [hn]
      · have : (i < n + 1 ∧ A i ≠ F i) ↔ (i < n ∧ A i ≠ F i) := by constructor <;> (rintro ⟨a, b⟩; exact ⟨by omega, b⟩)
        simp only [this]
    · rw [if_neg hn]
      simp only [List.map_cons, List.map_nil, lastOf_one]
      by_cases hi : n = i
      · subst hi; simp [hn]
      · have : (i < n + 1 ∧ A i ≠ F i) ↔ (i < n ∧ A i ≠ F i) := by constructor <;> (rintro ⟨a, b⟩; exact ⟨by omega, b⟩)
        have h2 : ¬ frm + n = frm + i := by omega
        simp only [this, if_neg h2, Option.none_or]
theorem diffs_same (A F : Nat → Bs) : ∀ n, (∀ i, i < n → A i = F i) → diffs A F n = []
  | 0, _ => rfl
  | n + 1, h => by rw [diffs, diffs_same A F n (fun i hi => h i (by omega)), diff1, if_pos (h n (by omega))]; rfl
/-- blocks frm .. frm + n of D hold the stream s, and D runs -/
structure Runs (D : DK) (frm n : Nat) (s : Bs) : Prop where
  up : D.fuse = none
  room : frm + n ≤ D.S.length
  view : ∀ j, j < n → D.view (frm + j) = laidB s j
theorem Runs.turn {D : DK} {frm n : Nat} {s t : Bs} (h : Runs D frm n s) : Runs { D with L := D.L ++ shN frm (diffs (laidB s) (laidB t) n) } frm n t :=
  ⟨h.up, h.room, fun j hj => by
    rw [view_app, lastOf_diffs]
    by_cases e : laidB s j = laidB t j
    · rw [if_neg (fun h => h.2 e)]; exact (h.view j hj).trans e
    · rw [if_pos ⟨hj, e⟩]; rfl⟩
theorem Runs.sync {D : DK} {frm n : Nat} {s : Bs} (h : Runs D frm n s) : Runs D.sync frm n s :=
  ⟨by show D.fuse.map _ = none; rw [h.up]; rfl, by show _ ≤ (syncS D.S D.L).length; rw [length_syncS]; exact h.room, fun j hj => by
    have hr := h.room
    show (lastOf [] (frm + j)).getD ((syncS D.S D.L).getD (frm + j) []) = _
    rw [syncS_getD _ _ _ (by omega), lastOf_nil]
    exact h.view j hj⟩
theorem length_frameOf (t : Bs) : (frameOf t).length = t.length + 8 := by simp [frameOf, headOf, length_fourL]; omega
theorem append_runs {D : DK} {frm n : Nat} {s : Bs} (h : Runs D frm n s) (b : Nat) (t : Bs) (ht : t.length ≤ 65536) (hfit : s.length + (t.length + 8) ≤ n * 255) :
    appendW D ⟨b, frm, n, s, false⟩ n t = ({ D with L := D.L ++ shN frm (diffs (laidB s) (laidB (s ++ frameOf t)) n) }, ⟨b, frm, n, s ++ frameOf t, false⟩, 0) := by
  have e1 : frame1 t = (frameOf t, 0) := by unfold frame1; rw [if_pos ht]
  unfold appendW
  rw [e1]
  have hl := length_frameOf t
  have hw := writesK_up frm (diffs (laidB s) (laidB (s ++ frameOf t)) n) D h.up (fun x hx => by
    obtain ⟨h1, h2⟩ := diffs_mem _ _ _ x hx
    have := h.room
    exact ⟨by omega, by rw [h2]; exact length_laidB _ _⟩)
  simp only [Bool.false_eq_true, if_false, ne_eq, not_true_eq_false]
  rw [if_neg (by omega), hw]
  simp
theorem append_full_runs {D : DK} {frm n : Nat} {s : Bs} (b : Nat) (t : Bs) (ht : t.length ≤ 65536) (hfit : n * 255 < s.length + (t.length + 8)) :
    appendW D ⟨b, frm, n, s, false⟩ n t = (D, ⟨b, frm, n, s, false⟩, 6) := by
  have e1 : frame1 t = (frameOf t, 0) := by unfold frame1; rw [if_pos ht]
  unfold appendW
  rw [e1]
  have hl := length_frameOf t
  simp only [Bool.false_eq_true, if_false, ne_eq, not_true_eq_false]
  rw [if_pos (by omega)]
/-- the frames of texts -/
def framesOf (l : List Bs) : Bs := l.flatMap frameOf
theorem framesOf_snoc (l : List Bs) (t : Bs) : framesOf (l ++ [t]) = framesOf l ++ frameOf t := by simp [framesOf]
theorem numK_four (x : Nat) (hx : x < 4294967296) (r : Bs) : numK (fourL x ++ r) 4 = x := by
  have h (n : Nat) (hn : n < 256) : (UInt8.ofNat n).toNat = n := by simp [UInt8.toNat_ofNat']; omega
  simp only [numK, fourL, List.cons_append, List.getD_cons_zero, List.getD_cons_succ]
  rw [h _ (by omega), h _ (by omega), h _ (by omega), h _ (by omega)]
  omega
theorem read1_frame (t : Bs) (ht : t.length ≤ 65536) (r : Bs) : read1 (frameOf t ++ r) = (t, t.length + 8, 0) := by
  have hl := length_frameOf t
  have e0 : frameOf t ++ r = fourL t.length ++ (t ++ (fourL (crcOf (headOf t)) ++ r)) := by simp [frameOf, headOf]
  have hn : numK (frameOf t ++ r) 4 = t.length := by rw [e0]; exact numK_four _ (by omega) _
  have hh : (headOf t).length = t.length + 4 := by simp [headOf, length_fourL]; omega
  have h1 : (frameOf t ++ r).take (t.length + 4) = headOf t := by
    rw [show frameOf t ++ r = headOf t ++ (fourL (crcOf (headOf t)) ++ r) by simp [frameOf], ← hh, List.take_left']
    rfl
  have h2 : (frameOf t ++ r).drop (t.length + 4) = fourL (crcOf (headOf t)) ++ r := by
    rw [show frameOf t ++ r = headOf t ++ (fourL (crcOf (headOf t)) ++ r) by simp [frameOf], ← hh, List.drop_left']
    rfl
  unfold read1
  rw [hn, h1, h2, numK_four _ (crcOf_lt _)]
  have hlen : (frameOf t ++ r).length = t.length + 8 + r.length := by rw [List.length_append, hl]
  rw [if_neg (by omega), if_neg (by omega), if_neg (by omega), if_pos rfl]
  have h3 : ((frameOf t ++ r).drop 4).take t.length = t := by
    rw [e0, show (4 : Nat) = (fourL t.length).length from rfl, List.drop_left', List.take_left']
    · rfl
    · rfl
  rw [h3]
theorem drop_frame (t r : Bs) : (frameOf t ++ r).drop (t.length + 8) = r := by
  rw [← length_frameOf t, List.drop_left']
  rfl
theorem scanL_frames : ∀ (l : List Bs) (k : Nat), (∀ t ∈ l, t.length ≤ 65536) → (framesOf l).length ≤ k → scanL k (framesOf l) = l.map fun t => (t, t.length + 8, 0)
  | [], k, _, _ => by cases k <;> rfl
  | t :: l, k, h, hk => by
    have ht := h t (List.mem_cons_self ..)
    have e : framesOf (t :: l) = frameOf t ++ framesOf l := rfl
    have hl := length_frameOf t
    rw [e] at hk ⊢
    rw [List.length_append] at hk
    obtain ⟨k, rfl⟩ : ∃ m, k = m + 1 := ⟨k - 1, by omega⟩
    rw [scanL, if_neg (by intro h0; have := congrArg List.length h0; simp only [List.length_append, List.length_nil] at this; omega), read1_frame t ht]
    simp only [if_true]
    rw [drop_frame, scanL_frames l k (fun y hy => h y (List.mem_cons_of_mem _ hy)) (by omega)]
    rfl
theorem foldE_frames : ∀ l : List Bs, foldE (l.map fun t => (t, t.length + 8, (0 : Int))) = (l, (framesOf l).length, 0)
  | [] => rfl
  | t :: l => by
    rw [List.map_cons, foldE, foldE_frames l, if_pos rfl]
    simp [framesOf, length_frameOf]
theorem scan1_frames (l : List Bs) (h : ∀ t ∈ l, t.length ≤ 65536) : scan1 (framesOf l) = (l, (framesOf l).length, 0) := by
  unfold scan1
  rw [scanL_frames l _ h (Nat.le_refl _), foldE_frames]
theorem cnt_laidB (s : Bs) (k : Nat) : cntB (laidB s k) = (partB s k).length := by
  have h := length_partB s k
  have e : (partB s k ++ List.replicate (255 - (partB s k).length) (0 : UInt8)).length = 255 := by simp; omega
  unfold cntB laidB
  rw [List.getD_eq_getElem?_getD, List.getElem?_append_right (by omega), e]
  simp [UInt8.toNat_ofNat']
  omega
theorem take_laidB (s : Bs) (k : Nat) : (laidB s k).take (partB s k).length = partB s k := by
  unfold laidB
  rw [List.append_assoc, List.take_left']
  rfl
theorem stream_laid (s : Bs) : ∀ n, streamK ((List.range n).map (laidB s)) = (s.take (n * 255), decide (s.length < n * 255))
  | 0 => by simp [streamK]
  | n + 1 => by
    rw [List.range_succ, List.map_append, List.map_singleton, streamK_snoc, stream_laid s n]
    unfold stm1
    by_cases h : s.length < n * 255
    · have h2 : s.length < (n + 1) * 255 := Nat.lt_of_lt_of_le h (Nat.mul_le_mul_right 255 (Nat.le_succ n))
      rw [decide_eq_true h, decide_eq_true h2, if_pos rfl, List.take_of_length_le (Nat.le_of_lt h), List.take_of_length_le (Nat.le_of_lt h2)]
    · simp only [h, decide_false, Bool.false_eq_true, if_false]
      rw [cnt_laidB, take_laidB]
      have hp : (partB s n).length = min 255 (s.length - n * 255) := by simp [partB]
      refine Prod.ext ?_ ?_
      · show s.take (n * 255) ++ partB s n = _
        rw [partB, show (n + 1) * 255 = n * 255 + 255 by omega, List.take_add]
      · show decide ((partB s n).length < 255) = _
        rw [hp]
        exact decide_eq_decide.2 (by omega)
theorem blocks_runs {D : DK} {frm n : Nat} {s : Bs} (h : Runs D frm n s) : blocksD D frm n = (List.range n).map (laidB s) := by
  unfold blocksD
  refine List.map_congr_left fun j hj => ?_
  have hj := List.mem_range.1 hj
  have hr := h.room
  have h0 : thereB D ((frm : Int) + (j : Int)) = 0 := by unfold thereB; rw [down_up h.up]; simp; omega
  unfold DK.read
  rw [if_pos h0, show ((frm : Int) + (j : Int)).toNat = frm + j by omega]
  exact h.view j hj
theorem getD_laid (s : Bs) {n k : Nat} (hk : k < n) : ((List.range n).map (laidB s)).getD k [] = laidB s k := by simp [List.getD, List.getElem?_range hk]
theorem countB_laid (s : Bs) {n k : Nat} (hk : k < n) : countB ((List.range n).map (laidB s)) s k = laidB s k := by
  unfold countB
  rw [getD_laid s hk, List.take_append_drop]
/-- Open of a log that runs -/
theorem open_runs {D : DK} {frm n : Nat} {l : List Bs} (h : Runs D frm n (framesOf l)) (hn : 1 ≤ n) (hl : ∀ t ∈ l, t.length ≤ 65536) (hfit : (framesOf l).length ≤ n * 255) :
    openW D frm n = (D, some (framesOf l, l), 0) := by
  have hr := h.room
  have hm : mayW D.S.length frm n = 0 := by unfold mayW; rw [if_neg (by omega), if_neg (by omega)]
  unfold openW
  rw [if_neg (by rw [hm]; simp), down_up h.up]
  simp only [Bool.false_eq_true, if_false, Int.toNat_natCast]
  unfold openU
  simp only [blocks_runs h, stream_laid, List.take_of_length_le hfit, scan1_frames l hl, List.take_length]
  have d1 : diffs (fun k => ((List.range n).map (laidB (framesOf l))).getD k []) (countB ((List.range n).map (laidB (framesOf l))) (framesOf l)) n = [] :=
    diffs_same _ _ _ fun i hi => by rw [getD_laid _ hi, countB_laid _ hi]
  have d2 : diffs (countB ((List.range n).map (laidB (framesOf l))) (framesOf l)) (laidB (framesOf l)) n = [] :=
    diffs_same _ _ _ fun i hi => countB_laid _ hi
  rw [d1, d2]
  simp [mendW]
end Go.Proofs.Ytimfgeklnlnniaa
