/- What the known run of the log's laws comes to, reckoned. -/
import Derived.Test.YtimfgeklnlnniaaWal11
namespace Go.Proofs.Ytimfgeklnlnniaa
set_option linter.unusedVariables false
set_option linter.unusedSimpArgs false
def aD1 : DK := (clearW (newDK 4) 0 4).1
theorem a1 : (clearW (newDK 4) 0 4).2 = 0 := by kernel_rfl
theorem a2 : (openW aD1 0 4).2 = (some ([], []), 0) := by kernel_rfl
def aD2 : DK := (openW aD1 0 4).1
def ab : Bs := [97, 98]
def aG (b : Nat) (s : Bs) (br : Bool) : LG := ⟨b, 0, 4, s, br⟩
theorem a3 (b : Nat) : (appendW aD2 (aG b [] false) 4 ab).2 = (aG b (frameOf ab) false, 0) := by kernel_rfl
theorem a3l : (frameOf ab).length = 10 := by kernel_rfl
def aD3 : DK := (appendW aD2 (aG 0 [] false) 4 ab).1
theorem a3d (b : Nat) : (appendW aD2 (aG b [] false) 4 ab).1 = aD3 := by kernel_rfl
def aD4 : DK := aD3.sync
theorem a4 : aD3.down = false := by kernel_rfl
def ac : Bs := [99]
theorem a5 (b : Nat) : (appendW aD4 (aG b (frameOf ab) false) 4 ac).2.2 = 0 := by kernel_rfl
def aD5 : DK := (appendW aD4 (aG 0 (frameOf ab) false) 4 ac).1
theorem a5d (b : Nat) : (appendW aD4 (aG b (frameOf ab) false) 4 ac).1 = aD5 := by kernel_rfl
def aD6 : DK := aD5.crash []
theorem a7 : (openW aD6 0 4).2 = (some (frameOf ab, [ab]), 0) := by kernel_rfl
def aD7 : DK := (openW aD6 0 4).1
theorem a8 : (openW aD7 3 2).2 = (none, 2) := by kernel_rfl
end Go.Proofs.Ytimfgeklnlnniaa
