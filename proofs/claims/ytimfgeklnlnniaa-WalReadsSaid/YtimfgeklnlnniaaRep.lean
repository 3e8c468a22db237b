/- strings.Repeat's contract, laid at this program. -/
import Derived.Shelf.Strings.Repeat
import Derived.Test.YtimfgeklnlnniaaLay
import Derived.Ground.NamesProg
import Derived.Test.YtimfgeklnlnniaaBase
import Derived.Test.YtimfgeklnlnniaaProg
import Derived.Lib.Agree
namespace Go.Proofs.Ytimfgeklnlnniaa
set_option linter.unusedVariables false
set_option linter.unusedSimpArgs false
open Go.Shelf Go.RowKit
theorem repExtra : Builder.Extra Try.prog repLays_ren where
  sizeBuilder := by kernel_rfl
  liesBuilder := by kernel_rfl
  t5 := repLays.t5
  a5 := repLays.a5
  z5 := repLays.z5
  v5 := repLays.v5
  infoByte := by kernel_rfl
  cellsByte := by kernel_rfl
  sizeByte := by kernel_rfl
  neB5 := by decide
theorem rep_at : repLays_ren.f 105 = 34 := rfl
theorem repeatL_one (x : UInt8) : ∀ c, Lib.repeatL [x] c = List.replicate c x
  | 0 => rfl
  | c + 1 => by rw [Lib.repeatL, repeatL_one x c]; rfl
/-- zeros -/
theorem rep_c (w : World) (c : Nat) (hc : c ≤ 1000000) : Calls Try.prog 34 #[.string ⟨#[0]⟩, .int .i64 c] w fun e w' => e = .returned (.string ⟨(List.replicate c (0 : UInt8)).toArray⟩) ∧ Keep nomod w w' := by
  have h := Any.strings_Repeat repLays repExtra ⟨#[0]⟩ c w (by omega) (by show 1 * c ≤ _; omega)
  rw [rep_at] at h
  refine h.mono ?_
  rintro e w' ⟨rfl, hb⟩
  refine ⟨?_, Keep.below hb⟩
  have : (⟨#[0]⟩ : ByteArray).data.toList = [(0 : UInt8)] := rfl
  rw [this, repeatL_one]
end Go.Proofs.Ytimfgeklnlnniaa
