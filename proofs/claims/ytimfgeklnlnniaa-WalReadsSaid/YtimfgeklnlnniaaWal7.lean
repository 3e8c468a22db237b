/- The log, part 7: Open: what it tells. -/
import Derived.Test.YtimfgeklnlnniaaWal6
namespace Go.Proofs.Ytimfgeklnlnniaa
set_option linter.unusedVariables false
set_option linter.unusedSimpArgs false
open Go.RowKit Go.Shelf
set_option linter.unusedSectionVars false
variable [Floor]
attribute [local go_sem] ba_append
def blocksD (D : DK) (frm : Int) (k : Nat) : List Bs := (List.range k).map fun (j : Nat) => (D.read (frm + (j : Int))).1
theorem blocksD_succ (D : DK) (frm : Int) (k : Nat) : blocksD D frm (k + 1) = blocksD D frm k ++ [(D.read (frm + k)).1] := by simp [blocksD, List.range_succ]
theorem length_blocksD (D : DK) (frm : Int) (k : Nat) : (blocksD D frm k).length = k := by simp [blocksD]
/-- how many bytes a block counts -/
def cntB (b : Bs) : Nat := (b.getD 255 0).toNat
theorem cntB_lt (b : Bs) : cntB b < 256 := (b.getD 255 0).toNat_lt
def stm1 (p : Bs × Bool) (b : Bs) : Bs × Bool := if p.2 then p else (p.1 ++ b.take (cntB b), decide (cntB b < 255))
def streamK (l : List Bs) : Bs × Bool := l.foldl stm1 ([], false)
theorem streamK_snoc (l : List Bs) (b : Bs) : streamK (l ++ [b]) = stm1 (streamK l) b := by simp [streamK]
theorem streamK_len (l : List Bs) : (streamK l).1.length ≤ 255 * l.length := by
  have aux : ∀ (l : List Bs) (p : Bs × Bool), (l.foldl stm1 p).1.length ≤ p.1.length + 255 * l.length := by
    intro l
    induction l with
    | nil => intro p; simp
    | cons b l ih =>
      intro p
      rw [List.foldl_cons]
      have h := ih (stm1 p b)
      have h2 : (stm1 p b).1.length ≤ p.1.length + 255 := by
        unfold stm1
        split
        · omega
        · have := cntB_lt b
          simp only [List.length_append, List.length_take]; omega
      simp only [List.length_cons]; omega
  have := aux l ([], false)
  show (l.foldl stm1 ([], false)).1.length ≤ _
  simpa using this
/-- Open of a disk that is not down -/
def openU (D : DK) (frm : Int) (m : Nat) : DK × Option (Bs × List Bs) × Int :=
  let l := blocksD D frm m
  let r := scan1 (streamK l).1
  if r.2.2 = 41 ∨ r.2.2 = 4 then (D, none, 60)
  else
    let s := (streamK l).1.take r.2.1
    let m1 := mendW D frm (diffs (fun k => l.getD k []) (countB l s) m)
    if m1.2 ≠ 0 then (m1.1, none, m1.2)
    else
      let m2 := mendW m1.1 frm (diffs (countB l s) (laidB s) m)
      if m2.2 ≠ 0 then (m2.1, none, m2.2) else (m2.1, some (s, r.1), 0)
/-- Open: the disk behind it, the log's stream and records, the error -/
def openW (D : DK) (frm n : Int) : DK × Option (Bs × List Bs) × Int :=
  if mayW D.S.length frm n ≠ 0 then (D, none, mayW D.S.length frm n) else if D.down then (D, none, 50) else openU D frm n.toNat
theorem ls_act {P : Program} {ops : Array Oper} {Q : Exit → Act → World → Prop} {rest : List Oper} {o : Oper} {a : Act} {w : World} (hg : o.guard = none)
    (h : ∀ K : Act → World → Prop, (∀ a' w', wpList P ops Q rest a' w' → K a' w') → o.wp P a w K Q) : wpList P ops Q (o :: rest) a w := wpList_plain hg h
theorem lastOf_mem {L : List (Nat × Bs)} {i : Nat} {x : Bs} (h : lastOf L i = some x) : ∃ y ∈ L, y.2 = x := by
  unfold lastOf at h
  cases hf : L.reverse.find? (fun x => x.1 == i) with
  | none => rw [hf] at h; cases h
  | some y =>
    rw [hf] at h
    simp at h
    exact ⟨y, by simpa using List.mem_of_find?_eq_some hf, h⟩
theorem read_up {D : DK} (h : D.Ok) (hd : D.down = false) {i : Int} (h0 : 0 ≤ i) (h1 : i < D.S.length) : (D.read i).2 = 0 ∧ (D.read i).1.length = 256 := by
  have ht : thereB D i = 0 := by unfold thereB; rw [if_neg (by rw [hd]; simp), if_pos ⟨h0, h1⟩]
  unfold DK.read
  rw [if_pos ht]
  refine ⟨rfl, ?_⟩
  cases hl : lastOf D.L i.toNat with
  | none =>
    show (D.S.getD i.toNat []).length = 256
    rw [List.getD_eq_getElem?_getD, List.getElem?_eq_getElem (by omega)]
    exact h.len _ (List.getElem_mem _)
  | some x =>
    obtain ⟨y, hy, rfl⟩ := lastOf_mem hl
    exact (h.lens y hy).2
theorem open_nil (w : World) (frm n : Int) : Calls Try.prog 7 #[.pointer none, .int .i64 frm, .int .i64 n] w fun e w' => e = .returned (.tuple #[.pointer none, .slice none 0 0, .int .i64 1]) ∧ w = w' := by
  go_enter Try.func7, Try.ntmps7
  go_wp2_with (go_at_call 23; refine (wmay_nil _ frm n).mono ?_; rintro e w' ⟨rfl, rfl⟩)
  go_ret3
  exact ⟨rfl, rfl⟩
set_option maxRecDepth 100000 in
theorem open_may (w : World) (b : Nat) (D : DK) (h : IsDisk w b D) (frm n : Int) (hS : D.S.length ≤ 1000000) (hm : mayW D.S.length frm n ≠ 0) :
    Calls Try.prog 7 #[.pointer (some ⟨b, 0, none⟩), .int .i64 frm, .int .i64 n] w fun e w' => e = .returned (.tuple #[.pointer none, .slice none 0 0, .int .i64 (mayW D.S.length frm n)]) ∧ w = w' := by
  have Hm := Lib.hid (wmay_disk w b D h frm n hS)
  generalize mayW D.S.length frm n = er at *
  have hne : (er != 0) = true := by simpa using hm
  clear hm
  go_enter Try.func7, Try.ntmps7
  go_wp2_with (go_at_call 23; refine Hm.out.mono ?_; rintro e w' ⟨rfl, rfl⟩)
  go_ret3
  exact ⟨rfl, rfl⟩
set_option maxRecDepth 100000 in
theorem open_down (w : World) (b : Nat) (D : DK) (h : IsDisk w b D) (frm n : Int) (hS : D.S.length ≤ 1000000) (hL : D.L.length ≤ 1000000) (hm : mayW D.S.length frm n = 0) (hd : D.down = true) :
    Calls Try.prog 7 #[.pointer (some ⟨b, 0, none⟩), .int .i64 frm, .int .i64 n] w fun e w' => e = .returned (.tuple #[.pointer none, .slice none 0 0, .int .i64 50]) ∧ Keep nomod w w' := by
  obtain ⟨h1, h2, h3⟩ := mayW_zero hm
  have Hm := Lib.hid (wmay_disk w b D h frm n hS)
  rw [hm] at Hm
  have hr : D.read (frm + 0) = ([], 50) := by
    have ht : thereB D (frm + 0) = 50 := by unfold thereB; rw [if_pos hd]
    unfold DK.read
    rw [ht]; simp
  have hr' : D.read frm = ([], 50) := by rw [← hr, Int.add_zero]
  have Hr := Lib.hid (fun W h => read_disk W b D h frm (by omega))
  rw [hr'] at Hr
  have HD := Lib.hid h
  clear hr hr' h hm hd
  have hfr : frm ≤ 1000000 := by omega
  clear h3
  go_enter Try.func7, Try.ntmps7
  go_wp2_with (go_at_call 23; refine Hm.out.mono ?_; rintro e w' ⟨rfl, rfl⟩)
  go_loopw [33] (fun i W => i = .int .i64 0 ∧ Hid (IsDisk W b D) ∧ Hid (Keep nomod w W)) (fun i _ => 0)
  case atStart => exact ⟨rfl, Lib.hid (HD.out.keep (l := []) (((Keep.refl _ _).alloc _)) (by simp) (by simp) (by simp)), Lib.hid ((Keep.refl _ _).alloc _)⟩
  case round =>
    obtain ⟨rfl, HD2, HK⟩ := hrel
    go_wp2_with (go_at_call 24; refine (Hr.out _ HD2.out).mono ?_; rintro e w1 ⟨rfl, hk1⟩)
    go_ret3
    exact ⟨rfl, HK.out.trans hk1⟩
end Go.Proofs.Ytimfgeklnlnniaa
