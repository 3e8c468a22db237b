/- Slices of texts that lie somewhere; two of them are the same. No statement of the seat is proved here. -/
import Derived.Test.YtimfgeklnlnniaaReadsL
import Derived.Test.YtimfgeklnlnniaaAlive2
namespace Go.Proofs.Ytimfgeklnlnniaa
set_option linter.unusedVariables false
set_option linter.unusedSimpArgs false
set_option linter.unusedSectionVars false
open Go.RowKit
/-- a slice whose elements read as these texts -/
def StrsIn (w : World) (v : Value) (l : List Bs) : Prop :=
  ∃ q cap, v = .slice q l.length cap ∧ ∀ j x, l[j]? = some x → ∃ b o, q = some ⟨b, o, none⟩ ∧ w.cell? ⟨b, o + j, none⟩ = some (.string ⟨x.toArray⟩)
theorem cell_lt {w : World} {p : Addr} {v : Value} (h : w.cell? p = some v) : p.block < w.heap.size := by
  rcases Nat.lt_or_ge p.block w.heap.size with h1 | h1
  · exact h1
  · unfold World.cell? at h
    rw [Array.getElem?_eq_none h1] at h
    cases h
theorem cell_keep {w w' : World} (hk : Keep nomod w w') {p : Addr} {v : Value} (h : w.cell? p = some v) : w'.cell? p = some v :=
  (hk.toBelow.cell (cell_lt h)).trans h
theorem StrsIn.keep {w w' : World} {v : Value} {l : List Bs} (h : StrsIn w v l) (hk : Keep nomod w w') : StrsIn w' v l := by
  obtain ⟨q, cap, hv, hc⟩ := h
  refine ⟨q, cap, hv, fun j x hx => ?_⟩
  obtain ⟨b, o, hq, h1⟩ := hc j x hx
  exact ⟨b, o, hq, cell_keep hk h1⟩
theorem StrsIn.own {w : World} {base : Nat} {v : Value} {l : List Bs} (h : w.ownsRow base 9 1 v l.length (cellsS l)) : StrsIn w v l := by
  rcases h.2 with ⟨hv, hn⟩ | ⟨g, cap, cs, hv, _, hrow, _, _, hcs, htk⟩
  · have hl : l = [] := List.eq_nil_of_length_eq_zero hn
    subst hl
    exact ⟨none, 0, hv, fun j x hx => by cases hx⟩
  · refine ⟨_, cap, hv, fun j x hx => ⟨g, 0, rfl, ?_⟩⟩
    have h1 : (cellsS l)[j]? = some (Value.string ⟨x.toArray⟩) := by simp [cellsS, hx]
    rw [← htk, List.getElem?_take] at h1
    split at h1
    · exact cell_at (i := 0 + j) hrow (by simpa using h1)
    · cases h1
theorem same_yes (w : World) (v1 v2 : Value) (l : List Bs) (h1 : StrsIn w v1 l) (h2 : StrsIn w v2 l) (hl : l.length ≤ 1000000000000) :
    Calls Try.prog 14 #[v1, v2] w fun e w' => e = .returned (.bool true) ∧ ∃ n, w' = w.drewN n := by
  obtain ⟨q1, k1, rfl, hc1⟩ := h1
  obtain ⟨q2, k2, rfl, hc2⟩ := h2
  have C1 := Lib.hid hc1
  have C2 := Lib.hid hc2
  obtain ⟨n, hn⟩ : ∃ n, l.length = n := ⟨_, rfl⟩
  rw [hn] at hl
  rw [hn]
  have HN := Lib.hid hn
  clear hc1 hc2 hn
  go_enter Try.func14, Try.ntmps14
  go_wp2
  go_loopw [5] (fun i W => ∃ k nr : Nat, k ≤ n ∧ i = .int .i64 (k : Int) ∧ W = w.drewN nr) (fun i _ => n - (intOf i).toNat)
  case atStart => exact ⟨0, 0, Nat.zero_le _, rfl, rfl⟩
  case round =>
    obtain ⟨k, nr, hk, rfl, rfl⟩ := hrel
    by_cases hlt : k < n
    · obtain ⟨x, hx⟩ : ∃ x, l[k]? = some x := ⟨_, List.getElem?_eq_getElem (by rw [HN.out]; exact hlt)⟩
      obtain ⟨b1, o1, rfl, c1⟩ := C1.out k x hx
      obtain ⟨b2, o2, rfl, c2⟩ := C2.out k x hx
      clear C1 C2 hx
      have hi0 : (0 : Int) ≤ (k : Int) := by omega
      have hi1 : (k : Int) < (n : Int) := by omega
      go_wp2
      go_quiet (fail)
      go_wp2
      go_roundw
      case rel => exact ⟨k + 1, nr + nq, by omega, by go_num, rfl⟩
      case measure => simp [intOf]; omega
    · have hkm : k = n := by omega
      subst hkm
      go_wp2
      go_ret
      exact ⟨rfl, nr, rfl⟩
theorem room_drew [Floor] (w : World) (g : Nat) (G : LG) (h : IsLog w g G) (h1 : 0 ≤ G.n) (h2 : G.n ≤ 1000000) (h3 : G.s.length ≤ 1000000000) :
    Calls Try.prog 10 #[.pointer (some ⟨g, 0, none⟩)] w fun e w' => e = .returned (.int .i64 (G.n * 255 - G.s.length)) ∧ ∃ n, w' = w.drewN n := by
  have H := Lib.hid (fun W h => lnone_log W g G h)
  have hw1 := wrap_in (G.n * 255) (by omega)
  have hw2 := wrap_in (G.n * 255 - G.s.length) (by omega)
  have c0 := h.c0
  have c2 := h.c2
  have c3 := h.c3
  have HL := Lib.hid h
  clear h
  go_enter Try.func10, Try.ntmps10
  go_wp2_with (go_at_call 30; refine (H.out _ HL.out).mono ?_; rintro e w' ⟨rfl, rfl⟩)
  go_quiet (fail)
  go_wp2
  go_ret
  exact ⟨rfl, _, rfl⟩
end Go.Proofs.Ytimfgeklnlnniaa
