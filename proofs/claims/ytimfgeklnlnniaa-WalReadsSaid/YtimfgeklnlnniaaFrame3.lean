/- Frames, part 3: the iterator over a text. -/
import Derived.Test.YtimfgeklnlnniaaFrame2
import Derived.Test.YtimfgeklnlnniaaRange
namespace Go.Proofs.Ytimfgeklnlnniaa
set_option linter.unusedVariables false
set_option linter.unusedSimpArgs false
open Go.RowKit
/-- what is told, frame by frame -/
def scanL : Nat → Bs → List (Bs × Nat × Int)
  | 0, _ => []
  | k + 1, s => if s = [] then [] else if (read1 s).2.2 = 0 then read1 s :: scanL k (s.drop (read1 s).2.1) else [read1 s]
theorem read1_le {s : Bs} (h : (read1 s).2.2 = 0) : 8 ≤ (read1 s).2.1 ∧ (read1 s).2.1 ≤ s.length := by
  unfold read1 at *
  split at h
  · cases h
  · split at h
    · cases h
    · split at h
      · cases h
      · split at h
        · rename_i h1 h2 h3 h4
          rw [if_neg h1, if_neg h2, if_neg h3, if_pos h4]
          constructor
          · show 8 ≤ _ + 8; omega
          · show _ + 8 ≤ s.length; omega
        · cases h
def enc3 (x : Bs × Nat × Int) : Array Value := #[.agg #[.string ⟨x.1.toArray⟩, .int .i64 x.2.1, .int .i64 x.2.2]]
def strLen : Option Value → Nat
  | some (.string x) => x.size
  | _ => 0
def boxLen (W : World) (b : Nat) : Nat := strLen (W.cell? ⟨b, 0, none⟩)
theorem boxLen_eq {W : World} {b : Nat} {t : TypeId} {fr : Nat × Nat} {s : Bs} (h : W.heap[b]? = some (.cells #[.string ⟨s.toArray⟩] t fr)) : boxLen W b = s.length := by
  unfold boxLen; rw [cell_at (i := 0) h rfl]; exact size_mk s
set_option maxRecDepth 100000 in
theorem all1_c (w0 : World) (bn : Nat) (s : Bs) (hs : s.length ≤ 9223372036854775000) (hb : w0.heap[bn]? = some (.cells #[.string ⟨s.toArray⟩] 9 (0, 0))) :
    SeqW Try.prog 70 #[.pointer (some ⟨bn, 0, none⟩)] enc3 (scanL s.length s) (fun k => k = bn) (fun mb => ∀ cs t fr, ¬ mb bn (.cells cs t fr)) w0 := by
  intro l mb J Jx W hok hkw hJ hJx hY h0
  have HY := Lib.hid hY
  have HJ := Lib.hid hJ
  have HX := Lib.hid hJx
  have hbW := hkw.block _ _ hb (fun e => e)
  clear hY hJ hJx hkw hb
  refine (callsIn_wide (n := 4)).1 ?_
  refine callsIn_of_wp Try.func70 rfl trivial ?_ rfl
  simp only [Try.ntmps70, List.size_toArray, List.length_cons, List.length_nil, Nat.reduceAdd, Nat.reduceSub, Array.replicate_succ, Array.replicate_zero, List.push_toArray, List.append_toArray, List.nil_append, List.cons_append]
  gi_wp2
  gi_loopw [] (fun wr => ∃ (pre : List (Bs × Nat × Int)) (k : Nat) (r : Bs), Hid (scanL s.length s = pre ++ scanL k r) ∧ r.length ≤ k ∧ r.length ≤ s.length ∧ wr.heap[bn]? = some (.cells #[.string ⟨r.toArray⟩] 9 (0, 0)) ∧ J pre wr)
    (fun wr => boxLen wr bn)
  case atStart =>
    exact ⟨[], s.length, s, rfl, Nat.le_refl _, Nat.le_refl _, hbW, h0⟩
  case round =>
    obtain ⟨pre, k, r, HP, hk, hl, hb, hj⟩ := hrel
    have hc := cell_at (i := 0) hb rfl
    have hf := frozen_at hb 0
    by_cases hr : r = []
    · subst hr
      have HP2 : scanL s.length s = pre := by
        have := HP.out
        cases k <;> simpa [scanL] using this
      clear HP
      replace HP2 := Lib.hid HP2
      gi_wp2
      go_end0
      exact ⟨⟨_, rfl⟩, .inl (by rw [HP2.out]; exact hj)⟩
    · obtain ⟨rest, HP2, hrest⟩ : ∃ rest, Hid (scanL s.length s = pre ++ read1 r :: rest) ∧ Hid ((read1 r).2.2 = 0 → rest = scanL (k - 1) (r.drop (read1 r).2.1)) ∧ Hid ((read1 r).2.2 ≠ 0 → rest = []) := by
        cases k with
        | zero => exact absurd (List.length_eq_zero_iff.1 (by omega)) hr
        | succ k =>
          have := HP.out
          rw [scanL, if_neg hr] at this
          split at this
          · rename_i h; exact ⟨_, this, fun _ => rfl, fun h' => absurd h h'⟩
          · rename_i h; exact ⟨_, this, fun h' => absurd h' h, fun _ => rfl⟩
      have hne : r.isEmpty = false := by
        cases r with
        | nil => exact absurd rfl hr
        | cons x r => rfl
      gi_wp2_with (refine ⟨trivial, ?_⟩; gi_at_call 71; refine (callsIn_wide.2 (fread_c _ r (by omega))).mono ?_; rintro e w1 ⟨rfl, hk1⟩; obtain ⟨fn, tmps, assign, body, hy, hR⟩ := HY.out pre (read1 r) rest w1 HP2.out (HJ.out _ _ _ hj hk1.of_nomod); dsimp only [enc3] at hy)
      replace hR := Lib.hid hR
      have hb1 := hk1.block _ _ hb (fun e => e)
      clear hc hf
      generalize hrd : read1 r = rd at *
      obtain ⟨rt, rn, re⟩ := rd
      replace hrd := Lib.hid hrd
      dsimp only at *
      gi_wp2
      refine (hR.out).mono ?_
      rintro e w2 (⟨rfl, hj2, hk2⟩ | ⟨rfl, hx2⟩)
      · have hb2 := hk2.block _ _ hb1 (hok _ _ _)
        have hc := cell_at (i := 0) hb2 rfl
        have hf := frozen_at hb2 0
        by_cases he : re = 0
        · subst he
          have hle := read1_le (s := r) (by rw [hrd.out])
          rw [hrd.out] at hle
          dsimp only at hle
          have hrest' := hrest.1.out rfl
          clear hrest
          replace hrest' := Lib.hid hrest'
          have X2 := fun W => run_sl_from (P := Try.prog) W 9 Try.underlying9 r .i64 rn hle.2
          gi_wp2
          go_roundw
          case rel =>
            refine ⟨pre ++ [(rt, rn, 0)], k - 1, r.drop rn, ?_, ?_, ?_, heap_setCell_block hb2 _, HJ.out _ _ _ hj2 ((Keep.refl _ _).setCell (fun _ _ => rfl) _)⟩
            · show _ = _; rw [HP2.out, hrest'.out]; simp
            · rw [List.length_drop]; omega
            · rw [List.length_drop]; omega
          case measure => rw [boxLen_eq (s := r.drop rn) (heap_setCell_block hb2 _), boxLen_eq hb, List.length_drop]; omega
        · have hrest' := hrest.2.out he
          clear hrest
          subst hrest'
          gi_wp2
          refine bodyPost_ret (results_none rfl _ _ _) rfl ?_
          exact ⟨⟨_, rfl⟩, .inl (by rw [HP2.out]; exact hj2)⟩
      · gi_wp2
        refine bodyPost_ret (results_none rfl _ _ _) rfl ?_
        exact ⟨⟨_, rfl⟩, .inr ⟨_, hx2⟩⟩
end Go.Proofs.Ytimfgeklnlnniaa
