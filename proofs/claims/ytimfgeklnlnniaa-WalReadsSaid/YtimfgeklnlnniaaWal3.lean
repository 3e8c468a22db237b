/- The log, part 3: Clear. -/
import Derived.Test.YtimfgeklnlnniaaWal2
namespace Go.Proofs.Ytimfgeklnlnniaa
set_option linter.unusedVariables false
set_option linter.unusedSimpArgs false
open Go.RowKit
set_option linter.unusedSectionVars false
variable [Floor]
/-- writes, as long as they go well -/
def wr1 (p : DK × Int) (x : Int × Bs) : DK × Int := if p.2 = 0 then p.1.write x.1 x.2 else p
def writesK (D : DK) (l : List (Int × Bs)) : DK × Int := l.foldl wr1 (D, 0)
theorem writesK_snoc (D : DK) (l : List (Int × Bs)) (x : Int × Bs) : writesK D (l ++ [x]) = wr1 (writesK D l) x := by simp [writesK]
theorem wr1_stay {p : DK × Int} (h : p.2 ≠ 0) : ∀ l : List (Int × Bs), l.foldl wr1 p = p
  | [] => rfl
  | x :: l => by rw [List.foldl_cons, wr1, if_neg h]; exact wr1_stay h l
theorem writesK_stop {D : DK} {l r : List (Int × Bs)} (h : (writesK D l).2 ≠ 0) : writesK D (l ++ r) = writesK D l := by
  unfold writesK at *
  rw [List.foldl_append, wr1_stay h]
theorem write_S (D : DK) (i : Int) (s : Bs) : (D.write i s).1.S = D.S := by
  unfold DK.write
  split <;> first | rfl | (split <;> rfl)
theorem write_L (D : DK) (i : Int) (s : Bs) : (D.write i s).1.L.length ≤ D.L.length + 1 := by
  unfold DK.write
  split
  · split <;> simp [DK.wrote]
  · exact Nat.le_succ _
theorem writesK_L : ∀ (l : List (Int × Bs)) (D : DK), (writesK D l).1.S = D.S ∧ (writesK D l).1.L.length ≤ D.L.length + l.length := by
  intro l
  have aux : ∀ (l : List (Int × Bs)) (p : DK × Int), (l.foldl wr1 p).1.S = p.1.S ∧ (l.foldl wr1 p).1.L.length ≤ p.1.L.length + l.length := by
    intro l
    induction l with
    | nil => intro p; simp
    | cons x l ih =>
      intro p
      rw [List.foldl_cons]
      have h := ih (wr1 p x)
      unfold wr1 at h ⊢
      split at h
      · rename_i h0
        have h1 := write_S p.1 x.1 x.2
        have h2 := write_L p.1 x.1 x.2
        rw [if_pos h0]
        refine ⟨h.1.trans h1, ?_⟩
        simp only [List.length_cons]; omega
      · rename_i h0
        rw [if_neg h0]
        exact ⟨h.1, by simp only [List.length_cons]; omega⟩
  intro D
  exact aux l (D, 0)
/-- behind the writes: a sync -/
def finK (p : DK × Int) : DK × Int := if p.2 ≠ 0 then p else (if p.1.down then p.1 else p.1.sync, mayB p.1)
def zeroes (frm : Int) (k : Nat) : List (Int × Bs) := (List.range k).map fun (j : Nat) => (frm + (j : Int), zbs 256)
theorem zeroes_succ (frm : Int) (k : Nat) : zeroes frm (k + 1) = zeroes frm k ++ [(frm + k, zbs 256)] := by simp [zeroes, List.range_succ]
theorem length_zeroes (frm : Int) (k : Nat) : (zeroes frm k).length = k := by simp [zeroes]
theorem zeroes_split (frm : Int) {k n : Nat} (h : k ≤ n) : ∃ r, zeroes frm n = zeroes frm k ++ r := by
  refine ⟨(zeroes frm n).drop k, ?_⟩
  have : zeroes frm k = (zeroes frm n).take k := by simp [zeroes, ← List.map_take, List.take_range, Nat.min_eq_left h]
  rw [this, List.take_append_drop]
def clearW (D : DK) (frm n : Int) : DK × Int := if mayW D.S.length frm n ≠ 0 then (D, mayW D.S.length frm n) else finK (writesK D (zeroes frm n.toNat))
theorem clear_nil (w : World) (frm n : Int) : Calls Try.prog 11 #[.pointer none, .int .i64 frm, .int .i64 n] w fun e w' => e = .returned (.int .i64 1) ∧ w = w' := by
  go_enter Try.func11, Try.ntmps11
  go_wp2_with (go_at_call 23; refine (wmay_nil _ frm n).mono ?_; rintro e w' ⟨rfl, rfl⟩)
  go_ret
  exact ⟨rfl, rfl⟩
theorem mayW_zero {size : Nat} {frm n : Int} (h : mayW size frm n = 0) : 1 ≤ n ∧ 0 ≤ frm ∧ frm + n ≤ size := by
  unfold mayW at h
  split at h
  · cases h
  · split at h
    · cases h
    · omega
set_option maxRecDepth 100000 in
theorem clear_disk (w : World) (b : Nat) (D : DK) (h : IsDisk w b D) (frm n : Int) (hS : D.S.length ≤ 1000000) (hL : D.L.length ≤ 1000000) :
    Calls Try.prog 11 #[.pointer (some ⟨b, 0, none⟩), .int .i64 frm, .int .i64 n] w fun e w' => e = .returned (.int .i64 (clearW D frm n).2) ∧ IsDisk w' b (clearW D frm n).1 ∧ Keep (mods diskT) w w' := by
  have Hm := Lib.hid (wmay_disk w b D h frm n hS)
  by_cases h0 : mayW D.S.length frm n = 0
  · rw [h0] at Hm
    obtain ⟨h1, h2, h3⟩ := mayW_zero h0
    have e0 : clearW D frm n = finK (writesK D (zeroes frm n.toNat)) := by unfold clearW; rw [if_neg (by simpa using h0)]
    rw [e0]
    clear e0 h0
    obtain ⟨m, hm⟩ : ∃ m : Nat, n = m := ⟨n.toNat, by omega⟩
    subst hm
    simp only [Int.toNat_natCast]
    go_enter Try.func11, Try.ntmps11
    go_wp2_with (go_at_call 23; refine Hm.out.mono ?_; rintro e w' ⟨rfl, rfl⟩)
    go_loopw [18] (fun i W => ∃ k : Nat, k ≤ m ∧ i = .int .i64 (k : Int) ∧ Hid ((writesK D (zeroes frm k)).2 = 0) ∧ Hid (IsDisk W b (writesK D (zeroes frm k)).1) ∧ Hid (Keep (mods diskT) w W)) (fun i _ => m - (intOf i).toNat)
    case atStart => exact ⟨0, Nat.zero_le _, rfl, Lib.hid rfl, Lib.hid h, Lib.hid (Keep.refl _ _)⟩
    case round =>
      obtain ⟨k, hk, rfl, HZ, HD, HK⟩ := hrel
      by_cases hlt : k < m
      · have hwr := wrap_in (frm + k) (by omega)
        have hll := (writesK_L (zeroes frm k) D).2
        rw [length_zeroes] at hll
        have hsn := zeroes_succ frm k
        have hspl := zeroes_split frm (k := k + 1) (n := m) hlt
        have hstep : writesK D (zeroes frm (k + 1)) = (writesK D (zeroes frm k)).1.write (frm + k) (zbs 256) := by rw [hsn, writesK_snoc, wr1, if_pos HZ.out]
        clear hsn
        generalize (writesK D (zeroes frm k)).1 = Dk at *
        have HS := Lib.hid hstep
        have HP := Lib.hid hspl
        clear hstep hspl
        obtain ⟨er, her⟩ : ∃ er, (Dk.write (frm + k) (zbs 256)).2 = er := ⟨_, rfl⟩
        go_wp2_with (first
          | (go_at_call 34; refine (rep_c _ 256 (by omega)).mono ?_; rintro e w1 ⟨rfl, hk1⟩)
          | (go_at_call 33; refine (write_disk _ b Dk (HD.out.keep (l := []) hk1.of_nomod (by simp) (by simp) (by simp)) (frm + k) (zbs 256) (by omega)).mono ?_; rintro e w2 ⟨rfl, hd2, hk2⟩))
        · rename_i hne
          have hne : er ≠ 0 := by simpa using hne
          go_ret
          obtain ⟨r, hr⟩ := HP.out
          have hw2 : (writesK D (zeroes frm (k + 1))).2 ≠ 0 := by rw [HS.out, her]; exact hne
          have e2 : finK (writesK D (zeroes frm m)) = Dk.write (frm + k) (zbs 256) := by
            rw [hr, writesK_stop hw2, finK, if_pos hw2, HS.out]
          rw [e2]
          exact ⟨by rw [her]; rfl, hd2, HK.out.trans (hk1.of_nomod.trans hk2)⟩
        · rename_i heq
          have heq : er = 0 := by simpa using heq
          refine ⟨⟨k + 1, by omega, rfl, ?_, ?_, ?_⟩, by simp [intOf]; omega⟩
          · exact Lib.hid (by rw [HS.out, her]; exact heq)
          · exact Lib.hid (by rw [HS.out]; exact hd2)
          · exact Lib.hid (HK.out.trans (hk1.of_nomod.trans hk2))
      · have hkm : k = m := by omega
        subst hkm
        have hll := (writesK_L (zeroes frm k) D).2
        rw [length_zeroes] at hll
        obtain ⟨Dk, hDk⟩ : ∃ Dk, (writesK D (zeroes frm k)).1 = Dk := ⟨_, rfl⟩
        have e2 : finK (writesK D (zeroes frm k)) = (if Dk.down then Dk else Dk.sync, mayB Dk) := by
          rw [finK, if_neg (by rw [HZ.out]; simp), hDk]
        rw [hDk] at HD hll
        have E2 := Lib.hid e2
        clear e2 HZ hDk
        have Hs := Lib.hid (sync_disk wr b Dk HD.out (by omega))
        go_wp2_with (go_at_call 13; refine Hs.out.mono ?_; rintro e w1 ⟨rfl, hd1, hk1⟩)
        go_ret
        rw [E2.out]
        exact ⟨rfl, hd1, HK.out.trans hk1⟩
  · obtain ⟨er, her⟩ : ∃ er, mayW D.S.length frm n = er := ⟨_, rfl⟩
    have e0 : clearW D frm n = (D, er) := by unfold clearW; rw [if_pos h0, her]
    rw [e0]
    rw [her] at Hm h0
    clear e0 her
    have hne : (er != 0) = true := by simpa using h0
    go_enter Try.func11, Try.ntmps11
    go_wp2_with (go_at_call 23; refine Hm.out.mono ?_; rintro e w' ⟨rfl, rfl⟩)
    go_ret
    exact ⟨rfl, h, Keep.refl _ _⟩
end Go.Proofs.Ytimfgeklnlnniaa
