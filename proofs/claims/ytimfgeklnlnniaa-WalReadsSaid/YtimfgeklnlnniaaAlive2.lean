/- The known run of the log's laws. -/
import Derived.Test.YtimfgeklnlnniaaAlive
namespace Go.Proofs.Ytimfgeklnlnniaa
set_option linter.unusedVariables false
set_option linter.unusedSimpArgs false
open Go.RowKit
theorem a1S : (clearW (newDK 4) 0 4).1.S.length = 4 := by kernel_rfl
theorem a1L : aD1.L.length = 0 := by kernel_rfl
theorem a2S : aD2.S.length = 4 ∧ aD2.L.length ≤ 10 := ⟨by kernel_rfl, by decide +kernel⟩
theorem a4L : aD4.L.length = 0 ∧ aD3.L.length ≤ 10 ∧ aD5.L.length ≤ 10 ∧ aD6.L.length = 0 ∧ aD7.L.length ≤ 10 := by decide +kernel
theorem a4S : aD6.S.length = 4 ∧ aD7.S.length = 4 := by decide +kernel
theorem a5b (b : Nat) : (appendW aD4 (aG b (frameOf ab) false) 4 ac).2.1.b = b := by kernel_rfl
theorem a8d : (openW aD7 3 2).2.2 = 2 := by kernel_rfl
set_option maxRecDepth 100000 in
set_option maxHeartbeats 1000000 in
theorem alive_c (w : World) : Calls Try.prog 6 #[] w fun e w' => e = .returned (.bool true) ∧ Keep nomod w w' := by
  letI : Floor := ⟨w.heap.size⟩
  have hfl0 : Floor.b ≤ w.heap.size := Nat.le_refl _
  go_enter Try.func6, Try.ntmps6
  go_wp2_with fail
  refine (new_yes w 4 (by decide) (by decide) hfl0).mono ?_
  rintro e w1 ⟨rfl, hd1, hk1⟩
  have HK1 := Lib.hid (hk1.of_nomod (M := mods logT))
  generalize w.heap.size + 1 = b at *
  have H2 := Lib.hid (clear_disk w1 b _ hd1 0 4 (by decide) (by decide))
  clear hd1 hk1
  rw [a1] at H2
  go_wp2_with fail
  refine H2.out.mono ?_
  rintro e w2 ⟨rfl, hd2, hk2⟩
  have HK2 := Lib.hid (HK1.out.trans (hk2.mods_mono (fun x hx => List.mem_cons_of_mem _ hx)))
  have H3 := Lib.hid (open_disk w2 b aD1 hd2 0 4 (by rw [show aD1.S.length = 4 from a1S]; decide) (by rw [a1L]; decide))
  clear hd2 hk2 H2 HK1
  go_wp2_with fail
  refine H3.out.mono ?_
  rintro e w3 ⟨lv, rv, rfl, hd3, hk3, hm3⟩
  rw [a2] at hm3
  obtain ⟨g, rfl, hg, hl3, hr3⟩ := hm3
  rw [show (openW aD1 0 4).2.2 = 0 by rw [a2]]
  obtain ⟨q, c, rfl⟩ := ownsRow_slice2 hr3
  have HK3 := Lib.hid (HK2.out.trans (hk3.mods_mono (fun x hx => List.mem_cons_of_mem _ hx)))
  have hl3' : IsLog w3 g (aG b [] false) := hl3
  have H4 := Lib.hid (append_log w3 g (aG b [] false) aD2 hl3' hd3 ab 4 rfl (by decide) (by show (0:Nat) ≤ 1000000000; decide) (by decide) (by show (0:Int) ≤ 0 ∧ (0:Int) ≤ 1000000; decide) (by have := a2S.2; omega) (Nat.le_trans (HK2.out.size) hg))
  unfold appP at H4
  rw [a3, a3d] at H4
  have hfg : Floor.b ≤ g := Nat.le_trans HK2.out.size hg
  clear hl3 hl3' hd3 hk3 hg hr3 H3 HK2
  rw [List.length_nil]
  go_wp2_with fail
  refine H4.out.mono ?_
  rintro e w4 ⟨rfl, hd4, hl4, hk4⟩
  have HK4 := Lib.hid (HK3.out.trans hk4)
  have HL4 := Lib.hid hl4
  have H5 := Lib.hid (len_log w4 g _ hl4)
  rw [show (aG b (frameOf ab) false).s.length = 10 from a3l] at H5
  have H6 := Lib.hid (room_log w4 g _ hl4 (by show (0:Int) ≤ 4; decide) (by show (4:Int) ≤ 1000000; decide) (by rw [show (aG b (frameOf ab) false).s.length = 10 from a3l]; decide))
  rw [show (aG b (frameOf ab) false).s.length = 10 from a3l] at H6
  clear hk4 hl4 H4 HK3
  go_wp2_with fail
  refine H5.out.mono ?_
  rintro e w5 ⟨rfl, rfl⟩
  go_wp2_with fail
  refine H6.out.mono ?_
  rintro e w5 ⟨rfl, hk5⟩
  rw [show (aG b (frameOf ab) false).n * 255 - ((10 : Nat) : Int) = 1010 from rfl]
  have hd5 : IsDisk w5 b aD3 := hd4.keepM hk5 (fun _ _ _ _ _ e => e)
  have hl5 : IsLog w5 g (aG b (frameOf ab) false) := HL4.out.keep hk5 (fun _ _ e => e)
  have HK5 := Lib.hid (HK4.out.trans hk5.of_nomod)
  have H7 := Lib.hid (sync_disk w5 b aD3 hd5 (by have := a4L.2.1; omega))
  rw [a4, show mayB aD3 = 0 by unfold mayB; rw [a4]; rfl] at H7
  have HL5 := Lib.hid hl5
  clear hd4 hk5 hd5 hl5 HK4 HL4 H5 H6
  go_wp2_with fail
  refine H7.out.mono ?_
  rintro e w6 ⟨rfl, hd6, hk6⟩
  have hl6 : IsLog w6 g (aG b (frameOf ab) false) := HL5.out.keep hk6 (by simp [mods, tagOf])
  have HK6 := Lib.hid (HK5.out.trans (hk6.mods_mono (fun x hx => List.mem_cons_of_mem _ hx)))
  have H8 := Lib.hid (append_log w6 g (aG b (frameOf ab) false) aD4 hl6 hd6 ac 4 rfl (by decide) (by rw [show (aG b (frameOf ab) false).s.length = 10 from a3l]; decide) (by decide) (by show (0:Int) ≤ 0 ∧ (0:Int) ≤ 1000000; decide) (by have := a4L.1; omega) hfg)
  unfold appP at H8
  rw [a5] at H8
  rw [a5d] at H8
  clear hd6 hk6 hl6 HK5 HL5 H7
  go_wp2_with fail
  refine H8.out.mono ?_
  rintro e w7 ⟨rfl, hd7, _, hk7⟩
  have HK7 := Lib.hid (HK6.out.trans hk7)
  rw [a5b] at hd7
  have H9 := Lib.hid (crash_disk w7 b aD5 hd7 (.slice none 0 0) [] (.inl ⟨rfl, rfl⟩) (by have := a4L.2.2.1; omega) (by decide))
  clear hd7 hk7 HK6 H8
  go_wp2_with fail
  refine H9.out.mono ?_
  rintro e w8 ⟨rfl, hd8, hk8⟩
  have HK8 := Lib.hid (HK7.out.trans (hk8.mods_mono (fun x hx => List.mem_cons_of_mem _ hx)))
  have H10 := Lib.hid (open_disk w8 b aD6 hd8 0 4 (by rw [a4S.1]; decide) (by have := a4L.2.2.2.1; omega))
  clear hd8 hk8 H9 HK7
  go_wp2_with fail
  refine H10.out.mono ?_
  rintro e w9 ⟨lv9, rv9, rfl, hd9, hk9, hm9⟩
  rw [a7] at hm9
  obtain ⟨g9, rfl, hg9, hl9, hr9⟩ := hm9
  rw [show (openW aD6 0 4).2.2 = 0 by rw [a7]]
  have HK9 := Lib.hid (HK8.out.trans (hk9.mods_mono (fun x hx => List.mem_cons_of_mem _ hx)))
  have H11 := Lib.hid (open_disk w9 b aD7 hd9 3 2 (by rw [a4S.2]; decide) (by have := a4L.2.2.2.2; omega))
  obtain ⟨r9, cap9, cs9, rfl, _, hrow9, _, _, hcs9, htk9⟩ := hr9.2.resolve_left (fun e => by have := e.2; simp at this)
  have hc9 : cs9[0]? = some (Value.string ⟨ab.toArray⟩) := by
    have h1 : (cellsS [ab])[0]? = some (Value.string ⟨ab.toArray⟩) := rfl
    rw [← htk9, List.getElem?_take] at h1
    split at h1
    · simpa using h1
    · cases h1
  clear hd9 hl9 hg9 hr9 htk9 hcs9 H10 HK8
  rw [show ([ab] : List Bs).length = 1 from rfl]
  go_wp2_with fail
  refine H11.out.mono ?_
  rintro e w10 ⟨lv10, rv10, rfl, hd10, hk10, hm10⟩
  rw [a8] at hm10
  obtain ⟨rfl, rfl⟩ := hm10
  rw [a8d]
  have HK10 := Lib.hid (HK9.out.trans (hk10.mods_mono (fun x hx => List.mem_cons_of_mem _ hx)))
  have hrow10 := hk10.cells hrow9 (by decide)
  have c10 := cell_at (i := 0) hrow10 hc9
  rw [show (⟨ab.toArray⟩ : ByteArray) = ⟨#[97, 98]⟩ from rfl] at c10
  clear hd10 hk10 hrow9 hrow10 hc9 H11 HK9 hk9
  go_wp2
  go_ret
  exact ⟨rfl, HK10.out.floor⟩
end Go.Proofs.Ytimfgeklnlnniaa
