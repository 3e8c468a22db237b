/- The log, part 5: mend. -/
import Derived.Test.YtimfgeklnlnniaaWal4
namespace Go.Proofs.Ytimfgeklnlnniaa
set_option linter.unusedVariables false
set_option linter.unusedSimpArgs false
open Go.RowKit Go.Shelf
set_option linter.unusedSectionVars false
variable [Floor]
attribute [local go_sem] Oper.semAt_some
theorem IsDisk.keepM {w w' : World} {b : Nat} {D : DK} {M : Nat → Obj → Prop} (h : IsDisk w b D) (hk : Keep M w w') (hM : ∀ k cs t fr, t ∈ diskT → ¬ M k (.cells cs t fr)) : IsDisk w' b D := by
  obtain ⟨bs, lv, lf, hb, hf, hs, hl, hbb⟩ := h.lies
  exact ⟨h.ok, h.fl, bs, lv, lf, hk.block _ _ hb (hM _ _ _ _ (by simp)), hf, hk.block _ _ hs (hM _ _ _ _ (by simp)), ownsRow_far hl (fun g cs _ hh => hk.block _ _ hh (hM _ _ _ _ (by simp))), hbb⟩
def shiftL (frm : Int) (l : List (Nat × Bs)) : List (Int × Bs) := l.map fun x => (frm + x.1, x.2)
theorem shiftL_append (frm : Int) (a b : List (Nat × Bs)) : shiftL frm (a ++ b) = shiftL frm a ++ shiftL frm b := List.map_append ..
def mendW (D : DK) (frm : Int) (l : List (Nat × Bs)) : DK × Int := if l.isEmpty then (D, 0) else finK (writesK D (shiftL frm l))
def mendI (w : World) (b : Nat) (D : DK) (frm : Int) (W : World) (pre : List (Nat × Bs)) : Prop :=
  (writesK D (shiftL frm pre)).2 = 0 ∧ IsDisk W b (writesK D (shiftL frm pre)).1 ∧ W.heap[w.heap.size]? = some (.cells #[.pointer (some ⟨b, 0, none⟩)] 32 (0, 0)) ∧ W.heap[w.heap.size + 1]? = some (.cells #[.int .i64 frm] 3 (0, 0)) ∧
  W.heap[w.heap.size + 2]? = some (.cells #[.int .i64 0] 25 (0, 0)) ∧ W.heap[w.heap.size + 3]? = some (.cells #[.bool (!pre.isEmpty)] 4 (0, 0)) ∧ Keep (mods diskT) w W ∧ w.heap.size + 7 ≤ W.heap.size
theorem Put.disk {w W : World} {b i g : Nat} {v : Value} {D : DK} (h : Put w W g i v) (hd : IsDisk w b D) {cs : Array Value} {t : TypeId} {fr : Nat × Nat} (hg : w.heap[g]? = some (.cells cs t fr)) (ht : t ∉ diskT) : IsDisk W b D := by
  refine hd.keepM (M := fun k o => k = g ∧ w.heap[k]? = some o) (h.keep (a := w) ⟨rfl, rfl, rfl, Nat.le_refl _, fun _ _ h _ => h⟩ (fun o ho => ⟨rfl, ho⟩)) ?_
  rintro k cs' t' fr' h' ⟨rfl, e⟩
  rw [hg] at e; cases e
  exact ht h'
theorem mendI_keep {w W W' : World} {b m : Nat} {D : DK} {frm : Int} {pre : List (Nat × Bs)} (h : mendI w b D frm W pre) (hm : w.heap.size ≤ m) (hk : Keep (fun k o => False ∨ lr m k o) W W') : mendI w b D frm W' pre := by
  obtain ⟨h1, h2, h3, h4, h5, h6, h7, h8⟩ := h
  have hn : ∀ k cs t fr, ¬ (False ∨ lr m k (.cells cs t fr)) := fun k cs t fr e => e.elim id lr_cells
  refine ⟨h1, h2.keepM hk (fun k cs t fr _ => hn _ _ _ _), hk.block _ _ h3 (hn _ _ _ _), hk.block _ _ h4 (hn _ _ _ _), hk.block _ _ h5 (hn _ _ _ _), hk.block _ _ h6 (hn _ _ _ _), ?_, Nat.le_trans h8 hk.size⟩
  exact ⟨hk.os.trans h7.os, hk.tape.trans h7.tape, hk.output.trans h7.output, Nat.le_trans h7.size hk.size, fun k o hk' hn' => hk.block _ _ (h7.block k o hk' hn') (fun e => by
    have := heap_lt hk'
    rcases e with e | ⟨e, _⟩
    · exact e
    · omega)⟩
theorem diffs_lt (A F : Nat → Bs) : ∀ n, (∀ x ∈ diffs A F n, x.1 < n) ∧ (diffs A F n).length ≤ n
  | 0 => ⟨fun x hx => (by cases hx), Nat.le_refl _⟩
  | n + 1 => by
    obtain ⟨h1, h2⟩ := diffs_lt A F n
    rw [diffs, diff1]
    split
    · rw [List.append_nil]; exact ⟨fun x hx => Nat.lt_succ_of_lt (h1 x hx), by omega⟩
    · refine ⟨fun x hx => ?_, by simp; omega⟩
      rcases List.mem_append.1 hx with hx | hx
      · exact Nat.lt_succ_of_lt (h1 x hx)
      · simp at hx; subst hx; exact Nat.lt_succ_self _
def mendM (w : World) : Nat → Obj → Prop := fun k o => mods diskT k o ∨ k = w.heap.size + 2 ∨ k = w.heap.size + 3
def mendX (w : World) (b : Nat) (D : DK) (frm : Int) (n : Nat) (A F : Nat → Bs) (W : World) : Prop :=
  W.heap[w.heap.size + 2]? = some (.cells #[.int .i64 (mendW D frm (diffs A F n)).2] 25 (0, 0)) ∧ IsDisk W b (mendW D frm (diffs A F n)).1 ∧ Keep (mods diskT) w W ∧ w.heap.size + 7 ≤ W.heap.size
theorem mendX_keep {w W W' : World} {b m n : Nat} {D : DK} {frm : Int} {A F : Nat → Bs} (h : mendX w b D frm n A F W) (hm : w.heap.size ≤ m) (hk : Keep (fun k o => False ∨ lr m k o) W W') : mendX w b D frm n A F W' := by
  obtain ⟨h5, h2, h7, h8⟩ := h
  have hn : ∀ k cs t fr, ¬ (False ∨ lr m k (.cells cs t fr)) := fun k cs t fr e => e.elim id lr_cells
  refine ⟨hk.block _ _ h5 (hn _ _ _ _), h2.keepM hk (fun k cs t fr _ => hn _ _ _ _), ?_, Nat.le_trans h8 hk.size⟩
  exact ⟨hk.os.trans h7.os, hk.tape.trans h7.tape, hk.output.trans h7.output, Nat.le_trans h7.size hk.size, fun k o hk' hn' => hk.block _ _ (h7.block k o hk' hn') (fun e => by
    have := heap_lt hk'
    rcases e with e | ⟨e, _⟩
    · exact e
    · omega)⟩
set_option maxRecDepth 100000 in
theorem mend_end (w W : World) (b n Dd : Nat) (D : DK) (frm : Int) (A F : Nat → Bs) {a : Act} {tm : Array Value} (ha : a.tmps = tm) (hd : a.defers = [{ target := .collected Dd, args := #[] }])
    (ht : tm.getD 10 undef = .pointer (some ⟨w.heap.size + 2, 0, none⟩)) (hx : mendX w b D frm n A F W) (hD : w.heap.size + 7 ≤ Dd) (hK : W.heap[Dd]? = some (.deferred (some []))) :
    bodyPostM Fence.wide 5 Try.prog Try.f29 (fun e w' => e = .returned (.int .i64 (mendW D frm (diffs A F n)).2) ∧ IsDisk w' b (mendW D frm (diffs A F n)).1 ∧ Keep (mods diskT) w w') .ret a W := by
  show LeavesInM _ _ _ _ _ _ _ _ _
  rw [hd]
  refine ⟨by simp, .inl ⟨_, _, rfl, run_takeDeferred hK, ?_⟩⟩
  obtain ⟨h0, h1, h2, h3⟩ := hx
  have hp : Keep (fun k o => k = Dd ∧ ∃ d, o = .deferred d) W (W.putObj Dd (.deferred none)) :=
    ⟨rfl, rfl, rfl, by simp, fun k o hk hn => (World.putObj_heap_other (fun e => hn ⟨e, by subst e; rw [hK] at hk; cases hk; exact ⟨_, rfl⟩⟩)).trans hk⟩
  have hc : ∀ k cs t fr, ¬ (k = Dd ∧ ∃ d, Obj.cells cs t fr = .deferred d) := fun k cs t fr e => by obtain ⟨_, _, e⟩ := e; cases e
  have c0 := cell_at (i := 0) (hp.block _ _ h0 (hc _ _ _ _)) rfl
  have hdk := h1.keepM hp (fun k cs t fr _ => hc _ _ _ _)
  have hk' : Keep (mods diskT) w (W.putObj Dd (.deferred none)) := ⟨h2.os, h2.tape, h2.output, Nat.le_trans h2.size hp.size, fun k o hk' hn => hp.block _ _ (h2.block k o hk' hn) (fun e => by have := heap_lt hk'; omega)⟩
  generalize W.putObj Dd (.deferred none) = W' at *
  subst ha
  exact ⟨_, results_cell1 rfl _ _ ht (run_loadVar1 Try.underlying25 rfl c0), rfl, hdk, hk'⟩
set_option maxRecDepth 100000 in
theorem mend_c (w : World) (b : Nat) (D : DK) (h : IsDisk w b D) (frm : Int) (n : Nat) (fa fw : Value) (A F : Nat → Bs) (inv : World → Prop) (hn : n ≤ 1000000) (hfrm : 0 ≤ frm ∧ frm ≤ 1000000) (hL : D.L.length ≤ 1000000)
    (hinv : ∀ W W', inv W → Keep (fun k o => mods diskT k o ∨ w.heap.size ≤ k) W W' → inv W') (h0 : inv w) (hfw : FnOk fw F n inv) (hfa : FnOk fa A n inv) :
    Calls Try.prog 29 #[.pointer (some ⟨b, 0, none⟩), .int .i64 frm, .int .i64 n, fa, fw] w fun e w' => e = .returned (.int .i64 (mendW D frm (diffs A F n)).2) ∧ IsDisk w' b (mendW D frm (diffs A F n)).1 ∧ Keep (mods diskT) w w' := by
  have hfw' := hfw
  have hfa' := hfa
  obtain ⟨gw, cw, rfl, _, _⟩ := hfw'
  obtain ⟨ga, ca, rfl, _, _⟩ := hfa'
  have HW := Lib.hid hfw
  have HA := Lib.hid hfa
  have HI := Lib.hid hinv
  have H0 := Lib.hid h0
  clear hfw hfa hinv h0
  refine (callsIn_wide (n := 5)).1 ?_
  refine callsIn_of_wp_marks Try.func29 rfl trivial ?_
  simp only [Try.ntmps29, List.size_toArray, List.length_cons, List.length_nil, Nat.reduceAdd, Nat.reduceSub, Array.replicate_succ, Array.replicate_zero, List.push_toArray, List.append_toArray, List.nil_append, List.cons_append]
  gi_wp2_with (refine ⟨trivial, ?_⟩; gi_at_call 32; refine (callsIn_wide.2 (others_c _ n _ _ _ _ _ _ rfl rfl)).mono ?_; rintro e w' ⟨rfl, rfl⟩)
  obtain ⟨W0, hW0⟩ : ∃ W0, (((((((w.alloc (Obj.cells #[Value.pointer (some { block := b, off := 0 })] 32)).alloc (Obj.cells #[Value.int IntKind.i64 frm] 3)).alloc (Obj.cells #[Value.int IntKind.i64 0] 25)).alloc (Obj.cells #[Value.bool false] 4)).alloc
      (Obj.cells #[Value.int IntKind.i64 n] 3)).alloc (Obj.cells #[Value.func (Fn.func ga) #[] ca] 64)).alloc (Obj.cells #[Value.func (Fn.func gw) #[] cw] 64)) = W0 := ⟨_, rfl⟩
  have hsz : W0.heap.size = w.heap.size + 7 := by rw [← hW0]; simp
  have b4 : W0.heap[w.heap.size + 4]? = some (.cells #[.int .i64 n] 3 (0, 0)) := by rw [← hW0]; exact heap_old (heap_old (heap_new_at (by simp) _) _) _
  have b5 : W0.heap[w.heap.size + 5]? = some (.cells #[.func (.func ga) #[] ca] 64 (0, 0)) := by rw [← hW0]; exact heap_old (heap_new_at (by simp) _) _
  have b6 : W0.heap[w.heap.size + 6]? = some (.cells #[.func (.func gw) #[] cw] 64 (0, 0)) := by rw [← hW0]; exact heap_new_at (by simp) _
  have hk0 : Keep nomod w W0 := by rw [← hW0]; exact (((((((Keep.refl _ w).alloc _).alloc _).alloc _).alloc _).alloc _).alloc _).alloc _
  have i0 : mendI w b D frm W0 [] := by
    refine ⟨rfl, h.keepM hk0 (fun _ _ _ _ _ e => e), ?_, ?_, ?_, ?_, hk0.of_nomod, by omega⟩
    · rw [← hW0]; exact heap_old (heap_old (heap_old (heap_old (heap_old (heap_old (heap_new _ _) _) _) _) _) _) _
    · rw [← hW0]; exact heap_old (heap_old (heap_old (heap_old (heap_old (heap_new_at (by simp) _) _) _) _) _) _
    · rw [← hW0]; exact heap_old (heap_old (heap_old (heap_old (heap_new_at (by simp) _) _) _) _) _
    · rw [← hW0]; exact heap_old (heap_old (heap_old (heap_new_at (by simp) _) _) _) _
  have hlr : ∀ k o, lr W0.heap.size k o → mods diskT k o ∨ w.heap.size ≤ k := fun k o e => .inr (by have := e.1; omega)
  have hi0 : inv W0 := HI.out _ _ H0.out hk0.of_nomod
  rw [hW0]
  refine wp_range 54 #[.pointer (some ⟨w.heap.size + 4, 0, none⟩), .pointer (some ⟨w.heap.size + 6, 0, none⟩), .pointer (some ⟨w.heap.size + 5, 0, none⟩)] rfl (enters_of Try.func54 (by kernel_rfl) rfl)
    (others1_c W0 (w.heap.size + 4) (w.heap.size + 6) (w.heap.size + 5) n _ _ F A inv hn (fun W W' hW hk => HI.out _ _ hW hk.of_nomod) hi0 b4 b6 b5 HW.out HA.out) (fun _ => rfl)
    (mendM w) ?ok (fun k e => e.elim) ?cells (fun pre W => mendI w b D frm W pre) (fun c _ W => c = .ret ∧ mendX w b D frm n A F W)
    (fun pre W W' h hk => mendI_keep h (by omega) hk) (fun c pre W W' h hk => ⟨h.1, mendX_keep h.2 (by omega) hk⟩) i0 ?round ?done ?stop
  case ok =>
    refine ⟨fun W W' hW hk => HI.out _ _ hW (hk.mono fun k o e => ?_), fun cs fr e => ?_, fun cs fr e => ?_, fun cs fr e => ?_⟩
    · rcases e with (e | e | e) | e
      · exact .inl e
      · exact .inr (by omega)
      · exact .inr (by omega)
      · exact hlr k o e
    all_goals
      rcases e with (e | e | e) | e
      · simp [mods, tagOf] at e
      · omega
      · omega
      · exact lr_cells e
  case cells =>
    rintro k o hk (e | e | e)
    · cases o with
      | cells cs t fr => exact ⟨_, _, _, rfl⟩
      | _ => simp [mods, tagOf] at e
    · omega
    · omega
  case round =>
    rintro l pre ⟨k, y⟩ rest W hl hlt hx hi
    have hkn : k < n := (diffs_lt A F n).1 (k, y) (by rw [hx]; simp)
    have hpl : pre.length ≤ n := by have := (diffs_lt A F n).2; rw [hx] at this; simp at this; omega
    dsimp only [enc2]
    gi_wp2
    refine ⟨Keep.refl _ _, ?_⟩
    intro W2 hk2 hs2
    have hi2 := mendI_keep hi (by omega) (hk2.mono fun _ _ e => .inr e)
    clear hi hk2 hs2 hlt
    obtain ⟨z1, z2, z3, z4, z5, z6, z7, z8⟩ := hi2
    have hll := (writesK_L (shiftL frm pre) D).2
    rw [show (shiftL frm pre).length = pre.length by simp [shiftL]] at hll
    have hst : writesK D (shiftL frm (pre ++ [(k, y)])) = (writesK D (shiftL frm pre)).1.write (frm + k) y := by rw [shiftL_append]; exact (writesK_snoc D _ _).trans (by rw [wr1, if_pos z1])
    generalize (writesK D (shiftL frm pre)).1 = Dk at *
    have HS := Lib.hid hst
    have HD := Lib.hid z2
    clear hst z2 z1
    obtain ⟨er, her⟩ : ∃ er, (Dk.write (frm + k) y).2 = er := ⟨_, rfl⟩
    have Hwr := Lib.hid (fun W h => write_disk W b Dk h (frm + k) y (by omega))
    rw [her] at Hwr
    have d3 := cell_at (i := 0) z3 rfl
    have d4 := cell_at (i := 0) z4 rfl
    have hwr := wrap_in (frm + k) (by omega)
    have Hx := Lib.hid hx
    have Her := Lib.hid her
    clear hx her
    by_cases he : er = 0
    · subst he
      gi_wp2_with fail
      refine ⟨trivial, ?_⟩
      refine (CallsIn.inRound l (callsIn_wide.2 (Hwr.out _ HD.out))).mono ?_
      rintro e w3 ⟨rfl, hd3, hk3⟩
      have y3 := hk3.cells z3 (by decide)
      have y4 := hk3.cells z4 (by decide)
      have y5 := hk3.cells z5 (by decide)
      have y6 := hk3.cells z6 (by decide)
      have c5 := cell_at (i := 0) y5 rfl
      have f5 := frozen_at y5 0
      have c6 := cell_at (i := 0) y6 rfl
      have f6 := frozen_at y6 0
      have hs3 := hk3.size
      gi_wp2
      have p : Put w3 (w3.setCell ⟨w.heap.size + 3, 0, none⟩ (.bool true)) (w.heap.size + 3) 0 (.bool true) := rfl
      generalize w3.setCell ⟨w.heap.size + 3, 0, none⟩ (.bool true) = w4 at *
      have hM : ∀ o, W2.heap[w.heap.size + 3]? = some o → mendM w (w.heap.size + 3) o := fun o _ => .inr (.inr rfl)
      refine ⟨p.keep (hk3.mono fun _ _ e => .inl e) hM, ?_⟩
      refine ⟨by rw [HS.out]; exact Her.out, ?_, p.far y3 (by omega), p.far y4 (by omega), p.far y5 (by omega), ?_, p.keepNew (z7.trans hk3) (by omega), by rw [p.size]; omega⟩
      · rw [HS.out]
        have hk4 : Keep (fun k _ => k = w.heap.size + 3) w3 w4 := p.keep (Keep.refl _ _) (fun _ _ => rfl)
        exact p.disk hd3 y6 (by decide)
      · have := p.same1 y6
        rw [this]; simp
    · have hne : (er != 0) = true := by simpa using he
      gi_wp2_with fail
      refine ⟨trivial, ?_⟩
      refine (CallsIn.inRound l (callsIn_wide.2 (Hwr.out _ HD.out))).mono ?_
      rintro e w3 ⟨rfl, hd3, hk3⟩
      have y3 := hk3.cells z3 (by decide)
      have y4 := hk3.cells z4 (by decide)
      have y5 := hk3.cells z5 (by decide)
      have y6 := hk3.cells z6 (by decide)
      have c5 := cell_at (i := 0) y5 rfl
      have f5 := frozen_at y5 0
      have c6 := cell_at (i := 0) y6 rfl
      have f6 := frozen_at y6 0
      have hs3 := hk3.size
      gi_wp2
      have p : Put w3 (w3.setCell ⟨w.heap.size + 1 + 1, 0, none⟩ (.int .i64 er)) (w.heap.size + 2) 0 (.int .i64 er) := rfl
      generalize w3.setCell ⟨w.heap.size + 1 + 1, 0, none⟩ (.int .i64 er) = w4 at *
      have hM : ∀ o, W2.heap[w.heap.size + 2]? = some o → mendM w (w.heap.size + 2) o := fun o _ => .inr (.inl rfl)
      have hw2 : (writesK D (shiftL frm (pre ++ [(k, y)]))).2 ≠ 0 := by rw [HS.out, Her.out]; exact he
      have hmw : mendW D frm (diffs A F n) = Dk.write (frm + k) y := by
        rw [Hx.out, show pre ++ (k, y) :: rest = (pre ++ [(k, y)]) ++ rest by simp, mendW, if_neg (by simp), shiftL_append, writesK_stop hw2, finK, if_pos hw2, HS.out]
      refine ⟨p.keep (hk3.mono fun _ _ e => .inl e) hM, rfl, ?_, ?_, p.keepNew (z7.trans hk3) (by omega), by rw [p.size]; omega⟩
      · rw [hmw, Her.out]; exact p.same1 y5
      · rw [hmw]; exact p.disk hd3 y5 (by decide)
  case done =>
    rintro Dd W hD hi hK
    obtain ⟨z1, z2, z3, z4, z5, z6, z7, z8⟩ := hi
    have d3 := cell_at (i := 0) z3 rfl
    have c5 := cell_at (i := 0) z5 rfl
    have f5 := frozen_at z5 0
    have c6 := cell_at (i := 0) z6 rfl
    have hll := (diffs_lt A F n).2
    obtain ⟨xs, hxs⟩ : ∃ xs, diffs A F n = xs := ⟨_, rfl⟩
    rw [hxs] at z1 z2 c6 hll
    have HX := Lib.hid hxs
    clear hxs z6
    cases hem : xs.isEmpty with
    | true =>
      have hnil : xs = [] := by simpa using hem
      subst hnil
      have hm : mendW D frm (diffs A F n) = (D, 0) := by rw [HX.out]; rfl
      have Hm := Lib.hid hm
      have z2' : IsDisk W b D := z2
      have Z2 := Lib.hid z2'
      clear hm z2 z1 z2'
      gi_wp2
      have p : Put W (W.setCell ⟨w.heap.size + 1 + 1, 0, none⟩ (.int .i64 0)) (w.heap.size + 2) 0 (.int .i64 0) := rfl
      generalize W.setCell ⟨w.heap.size + 1 + 1, 0, none⟩ (.int .i64 0) = w4 at *
      refine mend_end w w4 b n Dd D frm A F rfl rfl rfl ⟨?_, ?_, p.keepNew z7 (by omega), by rw [p.size]; omega⟩ (by omega) (p.far hK (by omega))
      · rw [Hm.out]; exact p.same1 z5
      · rw [Hm.out]; exact p.disk Z2.out z5 (by decide)
    | false =>
      have hlk := (writesK_L (shiftL frm xs) D).2
      rw [show (shiftL frm xs).length = xs.length by simp [shiftL]] at hlk
      have hm : mendW D frm (diffs A F n) = (if (writesK D (shiftL frm xs)).1.down then (writesK D (shiftL frm xs)).1 else (writesK D (shiftL frm xs)).1.sync, mayB (writesK D (shiftL frm xs)).1) := by
        rw [HX.out, mendW, if_neg (by rw [hem]; simp), finK, if_neg (by rw [z1]; simp)]
      have Hs := Lib.hid (fun W h => sync_disk W b (writesK D (shiftL frm xs)).1 h (by omega))
      generalize (writesK D (shiftL frm xs)).1 = Dk at *
      have Hm := Lib.hid hm
      have Z2 := Lib.hid z2
      clear hm z2 z1
      rw [hem] at c6
      gi_wp2_with fail
      refine ⟨trivial, ?_⟩
      refine (callsIn_wide.2 (Hs.out _ Z2.out)).mono ?_
      rintro e w3 ⟨rfl, hd3, hk3⟩
      have y5 := hk3.cells z5 (by decide)
      have c5 := cell_at (i := 0) y5 rfl
      have f5 := frozen_at y5 0
      have hs3 := hk3.size
      have hK3 := hk3.block _ _ hK (by simp [mods, tagOf])
      gi_wp2
      have p : Put w3 (w3.setCell ⟨w.heap.size + 1 + 1, 0, none⟩ (.int .i64 (mayB Dk))) (w.heap.size + 2) 0 (.int .i64 (mayB Dk)) := rfl
      generalize w3.setCell ⟨w.heap.size + 1 + 1, 0, none⟩ (.int .i64 (mayB Dk)) = w4 at *
      refine mend_end w w4 b n Dd D frm A F rfl rfl rfl ⟨?_, ?_, p.keepNew (z7.trans hk3) (by omega), by rw [p.size]; omega⟩ (by omega) (p.far hK3 (by omega))
      · rw [Hm.out]; exact p.same1 y5
      · rw [Hm.out]; exact p.disk hd3 y5 (by decide)
  case stop =>
    rintro Dd c pre W hD ⟨rfl, hi⟩ hK
    gi_wp2
    exact mend_end w W b n Dd D frm A F rfl rfl rfl hi (by omega) hK
end Go.Proofs.Ytimfgeklnlnniaa
