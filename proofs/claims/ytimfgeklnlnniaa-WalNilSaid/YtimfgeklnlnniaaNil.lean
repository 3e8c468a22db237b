/- WalNil, walked. -/
import Derived.Test.YtimfgeklnlnniaaAlive2
namespace Go.Proofs.Ytimfgeklnlnniaa
open Go.RowKit
set_option maxRecDepth 100000 in
set_option maxHeartbeats 1000000 in
theorem walNil_c (w : World) (s : ByteArray) (n : Int) : Calls Try.prog 3 #[.string s, .int .i64 n] w fun e w' => e = .returned (.bool true) ∧ Keep nomod w w' := by
  letI : Floor := ⟨w.heap.size⟩
  have Ha := Lib.hid (fun W => alive_c W)
  by_cases hs : 4096 < s.size
  · go_enter Try.func3, Try.ntmps3
    go_wp2_with fail
    refine (Ha.out _).mono ?_
    rintro e w1 ⟨rfl, hk1⟩
    go_wp2
    go_ret
    exact ⟨rfl, hk1⟩
  · go_enter Try.func3, Try.ntmps3
    go_wp2_with (first
      | (go_at_call 7; refine (open_nil _ 0 n).mono ?_; rintro e w' ⟨rfl, rfl⟩)
      | (go_at_call 8; refine (append_nil _ s).mono ?_; rintro e w1 ⟨rfl, hk1⟩)
      | (go_at_call 9; refine (len_nil _).mono ?_; rintro e w' ⟨rfl, rfl⟩)
      | (go_at_call 10; refine (room_nil _).mono ?_; rintro e w' ⟨rfl, rfl⟩)
      | (go_at_call 11; refine (clear_nil _ 0 n).mono ?_; rintro e w' ⟨rfl, rfl⟩)
      | (go_at_call 6; refine (Ha.out _).mono ?_; rintro e w2 ⟨rfl, hk2⟩))
    go_ret
    exact ⟨rfl, hk1.trans hk2⟩
end Go.Proofs.Ytimfgeklnlnniaa
