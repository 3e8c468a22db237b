/- A disk of blocks: how it lies in memory, and what each call does to it. No statement of the seat is proved here. -/
import Derived.Test.YtimfgeklnlnniaaProg
import Derived.Test.YtimfgeklnlnniaaBase
import Derived.Deep.AppendLies
import Derived.Deep.RegionLaw
import Derived.Deep.QuietTactic
import Derived.BigQuiet
namespace Go.Proofs.Ytimfgeklnlnniaa
set_option linter.unusedVariables false
set_option linter.unusedSimpArgs false
open Go.RowKit

def flatS (S : List Bs) : List Value := S.flatMap cellsOf
def flatL (L : List (Nat × Bs)) : List Value := L.flatMap fun x => .int .i64 x.1 :: cellsOf x.2
structure DK where
  S : List Bs
  L : List (Nat × Bs)
  fuse : Option Nat
structure DK.Ok (D : DK) : Prop where
  len : ∀ x ∈ D.S, x.length = 256
  lens : ∀ x ∈ D.L, x.1 < D.S.length ∧ x.2.length = 256
  pos : 0 < D.S.length
  le : D.S.length ≤ 4096
  fuse : ∀ n, D.fuse = some n → n ≤ 9223372036854775807
set_option linter.unusedSectionVars false
variable [Floor]
/-- the disk D lies at block b of w -/
structure IsDisk (w : World) (b : Nat) (D : DK) : Prop where
  ok : D.Ok
  fl : Floor.b ≤ b
  lies : ∃ bs lv, ∃ lf : Int, w.heap[b]? = some (.cells #[.slice (some ⟨bs, 0, none⟩) D.S.length D.S.length, lv, .bool D.fuse.isSome, .int .i64 lf] 78 (0, 0)) ∧ (∀ n, D.fuse = some n → lf = (n : Int)) ∧
    w.heap[bs]? = some (.cells (flatS D.S).toArray 80 (0, 0)) ∧ w.ownsRow Floor.b 82 257 lv D.L.length (flatL D.L) ∧ Floor.b ≤ bs

abbrev diskT : List Nat := [78, 80, 82]

theorem IsDisk.keep {w w' : World} {b : Nat} {D : DK} {l : List Nat} (h : IsDisk w b D) (hk : Keep (mods l) w w') (h1 : 78 ∉ l) (h2 : 80 ∉ l) (h3 : 82 ∉ l) : IsDisk w' b D := by
  obtain ⟨bs, lv, lf, hb, hf, hs, hl, hbb⟩ := h.lies
  exact ⟨h.ok, h.fl, bs, lv, lf, hk.cells hb h1, hf, hk.cells hs h2, ownsRow_mods hl hk h3, hbb⟩

/-- so many bytes 0 (a definition of its own: the walk would write the list out) -/
def zs (n : Nat) : List Value := List.replicate n (u8 0)
theorem info_write : (Try.prog.info? 82).map (fun i => (i.size, i.bytes)) = some (257, 264) := by kernel_rfl
theorem info_write_zero : (Try.prog.info? 82).map (fun i => i.zero) = some (some (.agg (Value.int .i64 0 :: zs 256).toArray)) := by kernel_rfl
theorem info_bytes : (Try.prog.info? 80).map (fun i => (i.size, i.bytes)) = some (256, 256) := by kernel_rfl
theorem info_bytes_zero : (Try.prog.info? 80).map (fun i => i.zero) = some (some (.agg (zs 256).toArray)) := by kernel_rfl

theorem none_nil (w : World) : Calls Try.prog 47 #[.pointer none] w fun e w' => e = .returned (.bool true) ∧ w = w' := by
  go_enter Try.func47, Try.ntmps47
  go_wp2
  go_ret
  exact ⟨rfl, rfl⟩
theorem none_disk (w : World) (b : Nat) (D : DK) (h : IsDisk w b D) : Calls Try.prog 47 #[.pointer (some ⟨b, 0, none⟩)] w fun e w' => e = .returned (.bool false) ∧ w = w' := by
  obtain ⟨bs, lv, lf, hb, hf, hs, hl, hbb⟩ := h.lies
  have c0 := cell_at hb (i := 0) rfl
  have hp : ((D.S.length : Int) == 0) = false := beq_eq_false_iff_ne.2 (by have := h.ok.pos; omega)
  go_enter Try.func47, Try.ntmps47
  go_wp2
  go_ret
  exact ⟨rfl, rfl⟩
theorem size_nil (w : World) : Calls Try.prog 48 #[.pointer none] w fun e w' => e = .returned (.int .i64 0) ∧ w = w' := by
  go_enter Try.func48, Try.ntmps48
  go_wp2_with (go_at_call 47; refine (none_nil _).mono ?_; rintro e w' ⟨rfl, rfl⟩)
  go_ret
  exact ⟨rfl, rfl⟩
theorem size_disk (w : World) (b : Nat) (D : DK) (h : IsDisk w b D) : Calls Try.prog 48 #[.pointer (some ⟨b, 0, none⟩)] w fun e w' => e = .returned (.int .i64 D.S.length) ∧ w = w' := by
  obtain ⟨bs, lv, lf, hb, hf, hs, hl, hbb⟩ := h.lies
  have c0 := cell_at hb (i := 0) rfl
  go_enter Try.func48, Try.ntmps48
  go_wp2_with (go_at_call 47; refine (none_disk _ _ D h).mono ?_; rintro e w' ⟨rfl, rfl⟩)
  go_ret
  exact ⟨rfl, rfl⟩
theorem may_nil (w : World) : Calls Try.prog 35 #[.pointer none] w fun e w' => e = .returned (.int .i64 1) ∧ w = w' := by
  go_enter Try.func35, Try.ntmps35
  go_wp2_with (go_at_call 47; refine (none_nil _).mono ?_; rintro e w' ⟨rfl, rfl⟩)
  go_ret
  exact ⟨rfl, rfl⟩
/-- it stands still -/
def DK.down (D : DK) : Bool := D.fuse == some 0
def mayB (D : DK) : Int := if D.down then 50 else 0
theorem may_disk (w : World) (b : Nat) (D : DK) (h : IsDisk w b D) : Calls Try.prog 35 #[.pointer (some ⟨b, 0, none⟩)] w fun e w' => e = .returned (.int .i64 (mayB D)) ∧ w = w' := by
  obtain ⟨bs, lv, lf, hb, hf, hs, hl, hbb⟩ := h.lies
  have c2 := cell_at hb (i := 2) rfl
  have c3 := cell_at hb (i := 3) rfl
  cases hq : D.fuse with
  | none =>
    have hm : mayB D = 0 := by simp [mayB, DK.down, hq]
    rw [hm]
    simp [hq] at c2 c3
    go_enter Try.func35, Try.ntmps35
    go_wp2_with (go_at_call 47; refine (none_disk _ _ D h).mono ?_; rintro e w' ⟨rfl, rfl⟩)
    go_ret
    exact ⟨rfl, rfl⟩
  | some n =>
    have e1 := hf n hq
    subst e1
    simp [hq] at c2 c3
    by_cases hn : n = 0
    · subst hn
      have hm : mayB D = 50 := by simp [mayB, DK.down, hq]
      rw [hm]
      go_enter Try.func35, Try.ntmps35
      go_wp2_with (go_at_call 47; refine (none_disk _ _ D h).mono ?_; rintro e w' ⟨rfl, rfl⟩)
      go_ret
      exact ⟨rfl, rfl⟩
    · have hm : mayB D = 0 := by simp [mayB, DK.down, hq, hn]
      rw [hm]
      have hz : ((n : Int) == 0) = false := beq_eq_false_iff_ne.2 (by omega)
      clear hf hq
      go_enter Try.func35, Try.ntmps35
      go_wp2_with (go_at_call 47; refine (none_disk _ _ D h).mono ?_; rintro e w' ⟨rfl, rfl⟩)
      go_ret
      exact ⟨rfl, rfl⟩
def thereB (D : DK) (i : Int) : Int := if D.down then 50 else if 0 ≤ i ∧ i < D.S.length then 0 else 5
theorem there_disk (w : World) (b : Nat) (D : DK) (h : IsDisk w b D) (i : Int) :
    Calls Try.prog 49 #[.pointer (some ⟨b, 0, none⟩), .int .i64 i] w fun e w' => e = .returned (.int .i64 (thereB D i)) ∧ w = w' := by
  obtain ⟨bs, lv, lf, hb, hf, hs, hl, hbb⟩ := h.lies
  have c0 := cell_at hb (i := 0) rfl
  have hmay := Lib.hid (may_disk w b D h)
  clear hf hl hs
  by_cases hd : D.down = true
  · have hm : mayB D = 50 := by simp [mayB, hd]
    have ht : thereB D i = 50 := by simp [thereB, hd]
    rw [ht]
    rw [hm] at hmay
    go_enter Try.func49, Try.ntmps49
    go_wp2_with (go_at_call 35; refine hmay.out.mono ?_; rintro e w' ⟨rfl, rfl⟩)
    go_ret
    exact ⟨rfl, rfl⟩
  · have hm : mayB D = 0 := by simp [mayB, hd]
    rw [hm] at hmay
    by_cases h0 : 0 ≤ i
    · by_cases h1 : i < D.S.length
      · have ht : thereB D i = 0 := by simp [thereB, hd, h0, h1]
        rw [ht]
        go_enter Try.func49, Try.ntmps49
        go_wp2_with (go_at_call 35; refine hmay.out.mono ?_; rintro e w' ⟨rfl, rfl⟩)
        go_ret
        exact ⟨rfl, rfl⟩
      · have ht : thereB D i = 5 := by simp [thereB, hd, h1]
        rw [ht]
        go_enter Try.func49, Try.ntmps49
        go_wp2_with (go_at_call 35; refine hmay.out.mono ?_; rintro e w' ⟨rfl, rfl⟩)
        go_ret
        exact ⟨rfl, rfl⟩
    · have ht : thereB D i = 5 := by simp [thereB, hd, h0]
      rw [ht]
      go_enter Try.func49, Try.ntmps49
      go_wp2_with (go_at_call 35; refine hmay.out.mono ?_; rintro e w' ⟨rfl, rfl⟩)
      go_ret
      exact ⟨rfl, rfl⟩
end Go.Proofs.Ytimfgeklnlnniaa
