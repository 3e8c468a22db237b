/- The log, part 4: the blocks that are not as they are wanted. -/
import Derived.Test.YtimfgeklnlnniaaWal3
import Derived.Shelf.Abstract
namespace Go.Proofs.Ytimfgeklnlnniaa
set_option linter.unusedVariables false
set_option linter.unusedSimpArgs false
open Go.RowKit Go.Shelf
attribute [local go_sem] Oper.semAt_some
/-- a function value that tells a text for each number below n, and changes nothing -/
def FnOk (fv : Value) (F : Nat → Bs) (n : Nat) (inv : World → Prop) : Prop :=
  ∃ g caps, fv = .func (.func g) #[] caps ∧ (∀ args w, (callFunc g args).run Try.prog w = .ok (.enter g args) w) ∧
    ∀ W k, inv W → k < n → Calls Try.prog g (#[.int .i64 (k : Int)] ++ caps) W fun e w' => e = .returned (.string ⟨(F k).toArray⟩) ∧ Keep nomod W w'
def diff1 (A F : Nat → Bs) (k : Nat) : List (Nat × Bs) := if A k = F k then [] else [(k, F k)]
def diffs (A F : Nat → Bs) : Nat → List (Nat × Bs)
  | 0 => []
  | k + 1 => diffs A F k ++ diff1 A F k
theorem diffs_split (A F : Nat → Bs) (k : Nat) : ∀ d, ∃ r, diffs A F (k + d) = diffs A F k ++ r
  | 0 => ⟨[], by simp⟩
  | d + 1 => by
    obtain ⟨r, hr⟩ := diffs_split A F k d
    exact ⟨r ++ diff1 A F (k + d), by rw [Nat.add_succ, diffs, hr, List.append_assoc]⟩
def enc2 (x : Nat × Bs) : Array Value := #[.int .i64 x.1, .string ⟨x.2.toArray⟩]
theorem others_c (w : World) (n : Int) (fa fw : Value) (qa ca qw cw : _) (ha : fa = .func qa #[] ca) (hw : fw = .func qw #[] cw) : Calls Try.prog 32 #[.int .i64 n, fa, fw] w fun e w' =>
    e = .returned (.func (.func 54) #[] #[.pointer (some ⟨w.heap.size, 0, none⟩), .pointer (some ⟨w.heap.size + 2, 0, none⟩), .pointer (some ⟨w.heap.size + 1, 0, none⟩)]) ∧
    w' = ((w.alloc (.cells #[.int .i64 n] 3)).alloc (.cells #[fa] 64)).alloc (.cells #[fw] 64) := by
  subst ha hw
  go_enter Try.func32, Try.ntmps32
  go_wp2
  go_ret
  exact ⟨rfl, rfl⟩
set_option maxRecDepth 100000 in
theorem others1_c (w0 : World) (bn bw ba n : Nat) (fw fa : Value) (F A : Nat → Bs) (inv : World → Prop) (hn : n ≤ 1000000) (hinv : ∀ W W', inv W → Keep nomod W W' → inv W') (h0 : inv w0)
    (hb : w0.heap[bn]? = some (.cells #[.int .i64 n] 3 (0, 0))) (hbw : w0.heap[bw]? = some (.cells #[fw] 64 (0, 0))) (hba : w0.heap[ba]? = some (.cells #[fa] 64 (0, 0)))
    (hfw : FnOk fw F n inv) (hfa : FnOk fa A n inv) :
    SeqW Try.prog 54 #[.pointer (some ⟨bn, 0, none⟩), .pointer (some ⟨bw, 0, none⟩), .pointer (some ⟨ba, 0, none⟩)] enc2 (diffs A F n) (fun _ => False)
      (fun mb => (∀ W W', inv W → Keep mb W W' → inv W') ∧ (∀ cs fr, ¬ mb bn (.cells cs 3 fr)) ∧ (∀ cs fr, ¬ mb bw (.cells cs 64 fr)) ∧ (∀ cs fr, ¬ mb ba (.cells cs 64 fr))) w0 := by
  obtain ⟨gw, cw, rfl, hEw, hCw⟩ := hfw
  obtain ⟨ga, ca, rfl, hEa, hCa⟩ := hfa
  intro l mb J Jx W hok hkw hJ hJx hY hj0
  have HY := Lib.hid hY
  have HJ := Lib.hid hJ
  have HX := Lib.hid hJx
  have HI := Lib.hid hinv
  have HO := Lib.hid hok
  have HCw := Lib.hid hCw
  have HCa := Lib.hid hCa
  have iW := Lib.hid (hinv _ _ h0 hkw)
  have bW := hkw.block _ _ hb (fun e => e)
  have wW := hkw.block _ _ hbw (fun e => e)
  have aW := hkw.block _ _ hba (fun e => e)
  clear hY hJ hJx hkw hb hbw hba hok hinv hCw hCa h0
  refine (callsIn_wide (n := 4)).1 ?_
  refine callsIn_of_wp Try.func54 rfl trivial ?_ rfl
  simp only [Try.ntmps54, List.size_toArray, List.length_cons, List.length_nil, Nat.reduceAdd, Nat.reduceSub, Array.replicate_succ, Array.replicate_zero, List.push_toArray, List.append_toArray, List.nil_append, List.cons_append]
  have c0 := cell_at (i := 0) bW rfl
  gi_wp2
  gi_loopw [8] (fun i wr => ∃ k : Nat, k ≤ n ∧ i = .int .i64 (k : Int) ∧ Hid (inv wr) ∧ wr.heap[bn]? = some (.cells #[.int .i64 n] 3 (0, 0)) ∧ wr.heap[bw]? = some (.cells #[.func (.func gw) #[] cw] 64 (0, 0)) ∧ wr.heap[ba]? = some (.cells #[.func (.func ga) #[] ca] 64 (0, 0)) ∧ Hid (J (diffs A F k) wr))
    (fun i _ => n - (intOf i).toNat)
  case atStart =>
    exact ⟨0, Nat.zero_le _, rfl, iW, bW, wW, aW, Lib.hid hj0⟩
  case round =>
    obtain ⟨k, hk, rfl, Hi, rb, rw', ra, Hj⟩ := hrel
    have d1 := cell_at (i := 0) rw' rfl
    have d2 := cell_at (i := 0) ra rfl
    clear c0
    by_cases hlt : k < n
    · gi_wp2_with fail
      refine ⟨trivial, ?_⟩
      refine (callsIn_wide.2 (HCw.out _ k Hi.out hlt)).mono ?_
      rintro e w1 ⟨rfl, hk1⟩
      have Hi1 := Lib.hid (HI.out _ _ Hi.out hk1)
      have Hj1 := Lib.hid (HJ.out _ _ _ Hj.out hk1.of_nomod)
      have r1 := hk1.block _ _ rb (fun e => e)
      have w1' := hk1.block _ _ rw' (fun e => e)
      have a1 := hk1.block _ _ ra (fun e => e)
      have d1 := cell_at (i := 0) a1 rfl
      clear hk1 rb rw' ra Hi Hj d2
      gi_wp2_with fail
      refine ⟨trivial, ?_⟩
      refine (callsIn_wide.2 (HCa.out _ k Hi1.out hlt)).mono ?_
      rintro e w2 ⟨rfl, hk2⟩
      have Hi2 := Lib.hid (HI.out _ _ Hi1.out hk2)
      have Hj2 := Lib.hid (HJ.out _ _ _ Hj1.out hk2.of_nomod)
      have r2 := hk2.block _ _ r1 (fun e => e)
      have w2' := hk2.block _ _ w1' (fun e => e)
      have a2 := hk2.block _ _ a1 (fun e => e)
      clear hk2 r1 w1' a1 Hi1 Hj1 d1
      obtain ⟨r, hr⟩ := diffs_split A F (k + 1) (n - (k + 1))
      rw [show k + 1 + (n - (k + 1)) = n by omega, diffs, diff1] at hr
      have HS := Lib.hid (show diffs A F (k + 1) = diffs A F k ++ diff1 A F k from rfl)
      unfold diff1 at HS
      by_cases he : A k = F k
      · rw [if_pos he] at HS
        rw [List.append_nil] at HS
        clear hr
        rw [he]
        gi_wp2
        refine ⟨fun _ h => (by cases h), ?_⟩
        gi_wp2
        go_roundw
        case rel => exact ⟨k + 1, by omega, by go_num, Hi2, r2, w2', a2, Lib.hid (by rw [HS.out]; exact Hj2.out)⟩
        case measure => simp [intOf]; omega
      · rw [if_neg he] at hr HS
        obtain ⟨fn, tmps, assign, body, hy, hR⟩ := HY.out (diffs A F k) (k, F k) r w2 (by rw [hr]; simp) Hj2.out
        dsimp only [enc2] at hy
        replace hR := Lib.hid hR
        have hne : (A k == F k) = false := beq_false_of_ne he
        clear hr
        gi_wp2
        refine hR.out.mono ?_
        rintro e w3 (⟨rfl, hj3, hk3⟩ | ⟨rfl, hx3⟩)
        · have Hi3 := Lib.hid (HO.out.1 _ _ Hi2.out hk3)
          have r3 := hk3.block _ _ r2 (HO.out.2.1 _ _)
          have w3' := hk3.block _ _ w2' (HO.out.2.2.1 _ _)
          have a3 := hk3.block _ _ a2 (HO.out.2.2.2 _ _)
          gi_wp2
          go_roundw
          case rel => exact ⟨k + 1, by omega, by go_num, Hi3, r3, w3', a3, Lib.hid (by rw [HS.out]; exact hj3)⟩
          case measure => simp [intOf]; omega
        · gi_wp2
          refine bodyPost_ret (results_none rfl _ _ _) rfl ?_
          exact ⟨⟨_, rfl⟩, .inr ⟨_, hx3⟩⟩
    · have hkn : k = n := by omega
      subst hkn
      gi_wp2
      go_end0
      exact ⟨⟨_, rfl⟩, .inl Hj.out⟩
end Go.Proofs.Ytimfgeklnlnniaa
