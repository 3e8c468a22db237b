/- Small plain facts on worlds: which blocks a step may change (Keep), and what that leaves. No statement of the seat is proved here. -/
import Derived.WalkKit
import Derived.WalkSpells
import Derived.WalkLawsBesides
import Derived.Deep.MidRow
import Derived.Deep.Draws
import Derived.Deep.WholeRow
import Derived.Lib.Hide
import Derived.Laws.BytesArg
namespace Go.Proofs.Ytnjafdjolfdklaa
set_option linter.unusedVariables false
set_option linter.unusedSimpArgs false
open Go.RowKit

/-- the type that a block of cells bears; other objects: a number that is no type's -/
def tagOf : Obj → Nat
  | .cells _ t _ => t
  | _ => 1000000007

/-- w' has all that w has, but for blocks that M lets turn; and new ones. -/
structure Keep (M : Nat → Obj → Prop) (w w' : World) : Prop where
  os : w'.os = w.os
  tape : w'.tape = w.tape
  output : w'.output = w.output
  size : w.heap.size ≤ w'.heap.size
  block : ∀ k o, w.heap[k]? = some o → ¬ M k o → w'.heap[k]? = some o

/-- nothing may turn -/
def nomod : Nat → Obj → Prop := fun _ _ => False
/-- blocks of these types may turn -/
class Floor where
  b : Nat
def mods [Floor] (l : List Nat) : Nat → Obj → Prop := fun k o => tagOf o ∈ l ∧ Floor.b ≤ k

theorem heap_lt {w : World} {k : Nat} {o : Obj} (h : w.heap[k]? = some o) : k < w.heap.size := (Array.getElem?_eq_some_iff.1 h).1

theorem Keep.refl (M : Nat → Obj → Prop) (w : World) : Keep M w w := ⟨rfl, rfl, rfl, Nat.le_refl _, fun _ _ h _ => h⟩
theorem Keep.trans {M : Nat → Obj → Prop} {a b c : World} (h : Keep M a b) (k : Keep M b c) : Keep M a c :=
  ⟨k.os.trans h.os, k.tape.trans h.tape, k.output.trans h.output, Nat.le_trans h.size k.size, fun i o hi hm => k.block i o (h.block i o hi hm) hm⟩
theorem Keep.mono {M M' : Nat → Obj → Prop} {a b : World} (h : Keep M a b) (hm : ∀ k o, M k o → M' k o) : Keep M' a b :=
  ⟨h.os, h.tape, h.output, h.size, fun i o hi hn => h.block i o hi (fun e => hn (hm _ _ e))⟩
theorem Keep.of_nomod {M : Nat → Obj → Prop} {a b : World} (h : Keep nomod a b) : Keep M a b := h.mono fun _ _ e => e.elim
theorem Keep.mods_mono [Floor] {l l' : List Nat} {a b : World} (h : Keep (mods l) a b) (hl : ∀ x, x ∈ l → x ∈ l') : Keep (mods l') a b := h.mono fun _ _ e => ⟨hl _ e.1, e.2⟩
theorem Keep.drew {M : Nat → Obj → Prop} {a w : World} (h : Keep M a w) : Keep M a w.drew := ⟨h.os, h.tape, h.output, h.size, h.block⟩
theorem Keep.drewN {M : Nat → Obj → Prop} {a w : World} (h : Keep M a w) (n : Nat) : Keep M a (w.drewN n) := ⟨h.os, h.tape, h.output, h.size, h.block⟩
theorem Keep.alloc {M : Nat → Obj → Prop} {a w : World} (h : Keep M a w) (o : Obj) : Keep M a (w.alloc o) :=
  h.trans ⟨rfl, rfl, rfl, by simp, fun k o' hk _ => (Below.heap_alloc w o k (heap_lt hk)).trans hk⟩
theorem Keep.setCell {M : Nat → Obj → Prop} {a w : World} (h : Keep M a w) {p : Addr} (hp : ∀ o, a.heap[p.block]? = some o → M p.block o) (u : Value) : Keep M a (w.setCell p u) :=
  ⟨h.os, h.tape, h.output, by simpa [World.setCell] using h.size, fun k o hk hm => by
    by_cases e : k = p.block
    · subst e; exact absurd (hp o hk) hm
    · exact (Below.heap_setCell w p u k e).trans (h.block k o hk hm)⟩
/-- a store into a block that is new -/
theorem Keep.setNew {M : Nat → Obj → Prop} {a w : World} (h : Keep M a w) {p : Addr} (hp : a.heap.size ≤ p.block) (u : Value) : Keep M a (w.setCell p u) :=
  h.setCell (fun _ ho => absurd (heap_lt ho) (by omega)) u
theorem Keep.setRow {M : Nat → Obj → Prop} {a w : World} (h : Keep M a w) {g : Nat} (hp : ∀ o, a.heap[g]? = some o → M g o) (cs : Array Value) : Keep M a (w.setRow g cs) :=
  ⟨h.os, h.tape, h.output, by simpa [World.setRow] using h.size, fun k o hk hm => by
    by_cases e : k = g
    · subst e; exact absurd (hp o hk) hm
    · exact (setRow_other w g k cs e).trans (h.block k o hk hm)⟩
theorem Keep.grown {M : Nat → Obj → Prop} {a w w' : World} {row : Option Nat} (h : Keep M a w) (hg : w.grownBy w' row) (hr : ∀ k o, row = some k → a.heap[k]? = some o → M k o) : Keep M a w' :=
  ⟨hg.os.trans h.os, hg.tape.trans h.tape, hg.output.trans h.output, Nat.le_trans h.size hg.size, fun k o hk hm => by
    have hkw := h.block k o hk hm
    rw [hg.block k (heap_lt hkw) (fun e => hm (hr k o e.symm hk))]
    exact hkw⟩
theorem Keep.below {M : Nat → Obj → Prop} {w w' : World} (h : Below w.heap.size w w') : Keep M w w' :=
  ⟨h.os, h.tape, h.output, h.size, fun k o hk _ => (h.block k (heap_lt hk)).trans hk⟩
theorem Keep.toBelow {w w' : World} (h : Keep nomod w w') : Below w.heap.size w w' :=
  ⟨h.os, h.tape, h.output, h.size, fun k hk => by
    obtain ⟨o, ho⟩ : ∃ o, w.heap[k]? = some o := ⟨_, Array.getElem?_eq_getElem hk⟩
    rw [ho]; exact h.block k o ho (fun e => e)⟩
/-- what a block of a type that may not turn holds, it holds still -/
theorem Keep.cells [Floor] {l : List Nat} {w w' : World} (h : Keep (mods l) w w') {k : Nat} {cs : Array Value} {t : TypeId} {fr : Nat × Nat} (hk : w.heap[k]? = some (.cells cs t fr)) (ht : t ∉ l) :
    w'.heap[k]? = some (.cells cs t fr) := h.block k _ hk fun e => ht e.1

/-- a cell of a block -/
theorem cell_at {w : World} {b i : Nat} {cs : Array Value} {t : TypeId} {fr : Nat × Nat} (h : w.heap[b]? = some (.cells cs t fr)) {v : Value} (hv : cs[i]? = some v) : w.cell? ⟨b, i, none⟩ = some v := by
  rw [cell_of_row w b i cs t fr h, hv]
theorem frozen_at {w : World} {b : Nat} {cs : Array Value} {t : TypeId} (h : w.heap[b]? = some (.cells cs t (0, 0))) (i : Nat) : w.frozen? ⟨b, i, none⟩ = false := frozen_of_row w b i cs t h
/-- an owned row behind a step -/
theorem ownsRow_keep {M : Nat → Obj → Prop} {w w' : World} {base : Nat} {e : TypeId} {size : Nat} {v : Value} {n : Nat} {xs : List Value} (h : w.ownsRow base e size v n xs) (hk : Keep M w w')
    (hm : ∀ g cs, v.ownBlock = some g → ¬ M g (.cells cs e (0, 0))) : w'.ownsRow base e size v n xs := by
  refine ⟨h.1, ?_⟩
  rcases h.2 with h2 | ⟨g, cap, cur, hv, hg, hh, r⟩
  · exact .inl h2
  · exact .inr ⟨g, cap, cur, hv, hg, hk.block g _ hh (hm g cur (by rw [hv]; rfl)), r⟩
theorem ownsRow_mods [Floor] {l : List Nat} {w w' : World} {base : Nat} {e : TypeId} {size : Nat} {v : Value} {n : Nat} {xs : List Value} (h : w.ownsRow base e size v n xs) (hk : Keep (mods l) w w') (ht : e ∉ l) : w'.ownsRow base e size v n xs :=
  ownsRow_keep h hk fun _ _ _ hm => ht hm.1

/-- what may turn lies from the floor on: nothing of the old turns -/
theorem Keep.floor {w w' : World} {l : List Nat} (h : @Keep (@mods ⟨w.heap.size⟩ l) w w') : Keep nomod w w' :=
  ⟨h.os, h.tape, h.output, h.size, fun k o hk _ => h.block k o hk fun e => absurd (heap_lt hk) (Nat.not_lt.2 e.2)⟩
theorem heap_new (w : World) (o : Obj) : (w.alloc o).heap[w.heap.size]? = some o := heap_alloc_new w o
theorem heap_new_at {w : World} {n : Nat} (hn : w.heap.size = n) (o : Obj) : (w.alloc o).heap[n]? = some o := by subst hn; exact heap_alloc_new w o
theorem heap_old {w : World} {k : Nat} {x : Obj} (h : w.heap[k]? = some x) (o : Obj) : (w.alloc o).heap[k]? = some x := (Below.heap_alloc w o k (heap_lt h)).trans h
/-! ### whole rows -/
/-- the cells cs with vs laid from place o on -/
def spl (cs : List Value) (o : Nat) (vs : List Value) : List Value := cs.take o ++ vs ++ cs.drop (o + vs.length)
theorem length_spl (cs : List Value) (o : Nat) (vs : List Value) (h : o + vs.length ≤ cs.length) : (spl cs o vs).length = cs.length := by simp [spl]; omega
theorem heap_setCell_block {w : World} {b o : Nat} {cs : Array Value} {t : TypeId} {fr : Nat × Nat} (h : w.heap[b]? = some (.cells cs t fr)) (v : Value) :
    (w.setCell ⟨b, o, none⟩ v).heap[b]? = some (.cells (cs.setIfInBounds o v) t fr) := by
  show (w.heap.modify b _)[b]? = _
  rw [Array.getElem?_modify, if_pos rfl, h]
  rfl
theorem heap_setCell_far {w : World} {a : Addr} {k : Nat} (v : Value) (h : k ≠ a.block) : (w.setCell a v).heap[k]? = w.heap[k]? := Below.heap_setCell w a v k h
theorem heap_setCells {b : Nat} {t : TypeId} {fr : Nat × Nat} : ∀ (vs : List Value) (o : Nat) (w : World) (cs : List Value), w.heap[b]? = some (.cells cs.toArray t fr) → o + vs.length ≤ cs.length →
    (w.setCells b o vs).heap[b]? = some (.cells (spl cs o vs).toArray t fr)
  | [], o, w, cs, h, hl => by simp only [World.setCells, spl, List.append_nil, List.length_nil, Nat.add_zero, List.take_append_drop]; exact h
  | v :: r, o, w, cs, h, hl => by
    have h1 := heap_setCell_block (o := o) h v
    have e : cs.toArray.setIfInBounds o v = (cs.set o v).toArray := by simp
    rw [e] at h1
    have ih := heap_setCells r (o + 1) (w.setCell ⟨b, o, none⟩ v) (cs.set o v) h1 (by simp only [List.length_set]; simp only [List.length_cons] at hl; omega)
    rw [World.setCells, ih]
    have ho : o < cs.length := by simp only [List.length_cons] at hl; omega
    congr 2
    simp only [spl]
    congr 1
    apply List.ext_getElem?
    intro i
    simp only [List.getElem?_append, List.getElem?_drop, List.length_append, List.length_take, List.length_set, List.length_cons, List.getElem?_take, List.getElem?_set]
    have hm1 : min (o + 1) cs.length = o + 1 := by omega
    have hm2 : min o cs.length = o := by omega
    rw [hm1, hm2]
    by_cases h1 : i < o
    · rw [if_pos (by omega : i < o + 1 + r.length), if_pos (by omega : i < o + 1), if_pos (by omega : i < o + 1), if_neg (by omega : ¬ o = i), if_pos (by omega : i < o + (r.length + 1)), if_pos h1, if_pos h1]
    · by_cases h2 : i = o
      · subst h2
        rw [if_pos (by omega : i < i + 1 + r.length), if_pos (by omega : i < i + 1), if_pos (by omega : i < i + 1), if_pos rfl, if_pos ho, if_pos (by omega : i < i + (r.length + 1)), if_neg (by omega)]
        simp
      · by_cases h3 : i < o + 1 + r.length
        · rw [if_pos h3, if_neg (by omega : ¬ i < o + 1), if_pos (by omega : i < o + (r.length + 1)), if_neg h1]
          have : i - o = (i - (o + 1)) + 1 := by omega
          rw [this, List.getElem?_cons_succ]
        · rw [if_neg h3, if_neg (by omega : ¬ i < o + (r.length + 1)), if_neg (by omega)]
          congr 1
          omega
theorem size_setCells {b : Nat} : ∀ (vs : List Value) (o : Nat) (w : World), (w.setCells b o vs).heap.size = w.heap.size
  | [], _, _ => rfl
  | v :: r, o, w => by rw [World.setCells, size_setCells r (o + 1)]; simp
theorem heap_setCells_far {b k : Nat} (hk : k ≠ b) : ∀ (vs : List Value) (o : Nat) (w : World), (w.setCells b o vs).heap[k]? = w.heap[k]?
  | [], _, _ => rfl
  | v :: r, o, w => by rw [World.setCells, heap_setCells_far hk r (o + 1)]; exact Below.heap_setCell w _ v k hk
theorem Keep.setCells {M : Nat → Obj → Prop} {a : World} {b : Nat} (hp : ∀ o, a.heap[b]? = some o → M b o) : ∀ (vs : List Value) (o : Nat) {w : World}, Keep M a w → Keep M a (w.setCells b o vs)
  | [], _, _, h => h
  | v :: r, o, _, h => by rw [World.setCells]; exact Keep.setCells hp r (o + 1) (h.setCell (p := ⟨b, o, none⟩) hp v)
theorem there_of_block {w : World} {b : Nat} {cs : Array Value} {t : TypeId} (h : w.heap[b]? = some (.cells cs t (0, 0))) {o n : Nat} (hn : o + n ≤ cs.size) : w.there b o n := fun j hj =>
  ⟨by rw [cell_of_row w b (o + j) cs t (0, 0) h, Array.getElem?_eq_getElem (by omega)]; rfl, frozen_of_row w b (o + j) cs t h⟩
theorem rangeAt_of_list {w : World} {b o : Nat} {cs : List Value} {t : TypeId} {fr : Nat × Nat} (h : w.heap[b]? = some (.cells cs.toArray t fr)) (vs : List Value) (hv : ∀ j, j < vs.length → cs[o + j]? = vs[j]?) : w.rangeAt b o vs := fun j v hj => by
  rw [cell_of_row w b (o + j) _ t fr h]
  have hlt := (List.getElem?_eq_some_iff.1 hj).1
  simpa [hv j hlt] using hj
theorem setCells_rest {b : Nat} : ∀ (vs : List Value) (o : Nat) (w : World), (w.setCells b o vs).os = w.os ∧ (w.setCells b o vs).tape = w.tape ∧ (w.setCells b o vs).output = w.output ∧ (w.setCells b o vs).drawn = w.drawn
  | [], _, _ => ⟨rfl, rfl, rfl, rfl⟩
  | v :: r, o, w => by rw [World.setCells]; exact setCells_rest r (o + 1) (w.setCell ⟨b, o, none⟩ v)
theorem world_ext {a b : World} (h1 : a.heap = b.heap) (h2 : a.os = b.os) (h3 : a.tape = b.tape) (h4 : a.output = b.output) (h5 : a.drawn = b.drawn) : a = b := by
  cases a; cases b; simp_all
/-- many stores into a block are one row -/
theorem setCells_row {b o : Nat} {t : TypeId} {fr : Nat × Nat} {w : World} {cs vs : List Value} (h : w.heap[b]? = some (.cells cs.toArray t fr)) (hl : o + vs.length ≤ cs.length) :
    w.setCells b o vs = w.setRow b (spl cs o vs).toArray := by
  obtain ⟨h2, h3, h4, h5⟩ := setCells_rest vs o w (b := b)
  refine world_ext ?_ h2 h3 h4 h5
  apply Array.ext_getElem?
  intro k
  by_cases e : k = b
  · subst e; rw [heap_setCells vs o w cs h hl, setRow_heap w k _ _ t fr h]
  · rw [heap_setCells_far e, setRow_other w b k _ e]
theorem setCell_row {b o : Nat} {t : TypeId} {fr : Nat × Nat} {w : World} {cs : Array Value} (h : w.heap[b]? = some (.cells cs t fr)) (v : Value) :
    w.setCell ⟨b, o, none⟩ v = w.setRow b (cs.setIfInBounds o v) := by
  refine world_ext ?_ rfl rfl rfl rfl
  apply Array.ext_getElem?
  intro k
  by_cases e : k = b
  · subst e; rw [heap_setCell_block h, setRow_heap w k _ _ t fr h]
  · rw [heap_setCell_far _ e, setRow_other w b k _ e]
theorem setRow_heap_at {w : World} {g : Nat} {old : Array Value} {t : TypeId} {fr : Nat × Nat} (hg : w.heap[g]? = some (.cells old t fr)) (cs : Array Value) : (w.setRow g cs).heap[g]? = some (.cells cs t fr) := setRow_heap w g old cs t fr hg
theorem setRow_alloc_at {w : World} {n : Nat} (hn : w.heap.size = n) (c c' : Array Value) (t : TypeId) : (w.alloc (.cells c t)).setRow n c' = w.alloc (.cells c' t) := by subst hn; exact World.setRow_alloc_new w c c' t
/-- a whole array or struct is stored into a block -/
theorem run_storeAt_row {P : Program} {w : World} {b o : Nat} {t : TypeId} {cs : List Value} (ty : TypeId) (vs : List Value) (h : w.heap[b]? = some (.cells cs.toArray t (0, 0))) (hl : o + vs.length ≤ cs.length)
    (hi : (P.info? ty).map (·.size) = some vs.length) (h1 : ∀ v ∈ vs, v.oneCell' = true) :
    (Instr.storeAt ty (.pointer (some ⟨b, o, none⟩)) (.agg vs.toArray)).run P w = .ok () (w.setRow b (spl cs o vs).toArray) := by
  rw [run_storeAt_mid w b o ty vs.toArray (there_of_block h (by simpa using hl)) (by simpa using hi) (all_oneCell_toArray h1)]
  congr 1
  exact setCells_row h hl
/-- a whole array or struct is read out of a block -/
theorem run_loadAt_row {P : Program} {w : World} {b o : Nat} {t : TypeId} {fr : Nat × Nat} {cs : List Value} (ty : TypeId) (d : TypeDesc) (vs : List Value) (h : w.heap[b]? = some (.cells cs.toArray t fr)) (hv : ∀ j, j < vs.length → cs[o + j]? = vs[j]?)
    (hu : P.underlying ty = some d) (hd : d.isRow = true) (hi : (P.info? ty).map (·.size) = some vs.length) :
    (Instr.loadAt ty (.pointer (some ⟨b, o, none⟩))).run P w = .ok (.agg vs.toArray) w :=
  run_loadAt_mid w b o ty vs d (rangeAt_of_list h vs hv) hu hd hi
theorem madeCells_const (v : Value) (k n : Nat) (hk : 0 < k) : madeCells (List.replicate k v).toArray n = (List.replicate n v).toArray := by
  apply Array.ext
  · simp [madeCells]
  · intro i h1 h2
    simp only [madeCells, Array.getElem_map, Array.getElem_range, List.size_toArray, List.length_replicate]
    rw [getElem!_pos _ _ (by simp; exact Nat.mod_lt _ hk)]
    simp
theorem run_make_rowN {P : Program} (t e : TypeId) (i : TypeInfo) (z : Value) (ht : P.underlying t = some (.slice e)) (hi : P.info? e = some i) (hz : i.zero = some z)
    (kl kc : IntKind) (n c : Nat) (hnc : n ≤ c) (hbytes : i.bytes * c ≤ 281474976710656) (h63 : c ≤ 9223372036854775807) (w : World) :
    (Instr.makeSlice t (.int kl (n : Int)) (.int kc (c : Int))).run P w = .ok (.slice (some ⟨w.heap.size, 0, none⟩) n c) (w.alloc (.cells (madeCells z.cells (c * i.size)) e)) := by
  have hb : (i.bytes : Int) * (c : Int) ≤ 281474976710656 := by
    have h : ((i.bytes * c : Nat) : Int) ≤ 281474976710656 := by omega
    rwa [Int.natCast_mul] at h
  have hr := run_make (P := P) w t e i z ht hi hz kl kc n c (by omega) (by omega) hb (by omega)
  simp only [Int.toNat_natCast] at hr
  exact hr
/-! ### steps on blocks that may turn -/
theorem Keep.may [Floor] {l : List Nat} {a w : World} (h : Keep (mods l) a w) {k : Nat} {cs : Array Value} {t : TypeId} {fr : Nat × Nat} (hk : w.heap[k]? = some (.cells cs t fr)) (ht : t ∈ l) (hb : Floor.b ≤ k) : ∀ o, a.heap[k]? = some o → mods l k o := fun o ho => by
  by_cases hm : tagOf o ∈ l
  · exact ⟨hm, hb⟩
  · have := h.block k o ho (fun e => hm e.1)
    rw [hk] at this
    have e := Option.some.inj this
    rw [← e] at hm
    exact absurd ht hm
theorem Keep.setCell_mods [Floor] {l : List Nat} {a w : World} (h : Keep (mods l) a w) {p : Addr} {cs : Array Value} {t : TypeId} {fr : Nat × Nat} (hk : w.heap[p.block]? = some (.cells cs t fr)) (ht : t ∈ l) (hb : Floor.b ≤ p.block) (u : Value) : Keep (mods l) a (w.setCell p u) :=
  h.setCell (h.may hk ht hb) u
theorem Keep.setRow_mods [Floor] {l : List Nat} {a w : World} (h : Keep (mods l) a w) {g : Nat} {cs : Array Value} {t : TypeId} {fr : Nat × Nat} (hk : w.heap[g]? = some (.cells cs t fr)) (ht : t ∈ l) (hb : Floor.b ≤ g) (c : Array Value) : Keep (mods l) a (w.setRow g c) :=
  h.setRow (h.may hk ht hb) c
theorem ownsRow_block {w : World} {base : Nat} {e : TypeId} {size : Nat} {v : Value} {n : Nat} {xs : List Value} (h : w.ownsRow base e size v n xs) {g : Nat} (hg : v.ownBlock = some g) : ∃ cs, w.heap[g]? = some (.cells cs e (0, 0)) := by
  rcases h.2 with ⟨rfl, _⟩ | ⟨g', cap, cur, rfl, _, hh, _⟩
  · cases hg
  · obtain rfl : g' = g := by simpa [Value.ownBlock] using hg
    exact ⟨cur, hh⟩
theorem Keep.grown_own [Floor] {l : List Nat} {a w w' : World} {base : Nat} {e : TypeId} {size : Nat} {v : Value} {n : Nat} {xs : List Value} (h : Keep (mods l) a w) (ho : w.ownsRow base e size v n xs) (he : e ∈ l) (hb : Floor.b ≤ base) (hg : w.grownBy w' v.ownBlock) : Keep (mods l) a w' :=
  h.grown hg fun k o hk hko => by
    obtain ⟨cs, hcs⟩ := ownsRow_block ho hk
    exact h.may hcs he (Nat.le_trans hb (ho.lt k hk).1) o hko
/-- a block of another type than the row that grows -/
theorem grown_cells {w w' : World} {base : Nat} {e : TypeId} {size : Nat} {v : Value} {n : Nat} {xs : List Value} (ho : w.ownsRow base e size v n xs) (hg : w.grownBy w' v.ownBlock) {k : Nat} {cs : Array Value} {t : TypeId} {fr : Nat × Nat}
    (hk : w.heap[k]? = some (.cells cs t fr)) (ht : t ≠ e) : w'.heap[k]? = some (.cells cs t fr) := by
  rw [hg.block k (heap_lt hk) (fun he => ?_), hk]
  obtain ⟨c, hc⟩ := ownsRow_block ho he.symm
  rw [hk] at hc
  have := Option.some.inj hc
  cases this
  exact ht rfl
/-- a block that is not the row's -/
theorem grown_cells_ne {w w' : World} {row : Option Nat} (hg : w.grownBy w' row) {k : Nat} {o : Obj} (hk : w.heap[k]? = some o) (hne : some k ≠ row) : w'.heap[k]? = some o := (hg.block k (heap_lt hk) hne).trans hk
theorem ownsRow_far {w w' : World} {base : Nat} {e : TypeId} {size : Nat} {v : Value} {n : Nat} {xs : List Value} (h : w.ownsRow base e size v n xs) (hb : ∀ g cs, v.ownBlock = some g → w.heap[g]? = some (.cells cs e (0, 0)) → w'.heap[g]? = some (.cells cs e (0, 0))) : w'.ownsRow base e size v n xs := by
  refine ⟨h.1, ?_⟩
  rcases h.2 with h2 | ⟨g, cap, cur, hv, hg, hh, r⟩
  · exact .inl h2
  · exact .inr ⟨g, cap, cur, hv, hg, hb g cur (by rw [hv]; rfl) hh, r⟩
/-- an owned row while a block of another type is written -/
theorem ownsRow_setCell {w : World} {base : Nat} {e : TypeId} {size : Nat} {v : Value} {n : Nat} {xs : List Value} (h : w.ownsRow base e size v n xs) {p : Addr} {cs : Array Value} {t : TypeId} {fr : Nat × Nat} (hk : w.heap[p.block]? = some (.cells cs t fr)) (ht : t ≠ e) (u : Value) :
    (w.setCell p u).ownsRow base e size v n xs := ownsRow_far h fun g c _ hg => by
  rw [heap_setCell_far u (fun e1 => ht ?_)]
  · exact hg
  · rw [← e1, hg] at hk; exact (Obj.cells.inj (Option.some.inj hk)).2.1.symm
/-! ### bytes -/
abbrev Bs := List UInt8
/-- a byte's cell -/
def u8 (c : UInt8) : Value := .int .u8 (c.toNat : Int)
def cellsOf (l : Bs) : List Value := l.map u8
theorem length_cellsOf (l : Bs) : (cellsOf l).length = l.length := List.length_map ..
theorem cellsOf_one (l : Bs) : ∀ v ∈ cellsOf l, v.oneCell' = true := by
  intro v hv
  simp only [cellsOf, List.mem_map] at hv
  obtain ⟨b, _, rfl⟩ := hv
  rfl
theorem cellsOf_append (a b : Bs) : cellsOf (a ++ b) = cellsOf a ++ cellsOf b := List.map_append ..
theorem run_bytes_string {P : Program} (w : World) (src dst e : TypeId) (hs : P.underlying src = some (.slice e)) (he : P.underlying e = some (.int .u8)) (hd : P.underlying dst = some .string) (b off cap : Nat) (y : Bs) (hc : w.rangeAt b off (cellsOf y)) :
    (convert src dst (.slice (some ⟨b, off, none⟩) y.length cap)).run P w = .ok (.string ⟨y.toArray⟩) w := by
  have h := run_convert_bytes_arg (P := P) w src e hs he b off y.length cap (y.map fun c => (c.toNat : Int)) (by simp) (fun i hi => by
    have := hc i (.int .u8 ((y.map fun c => (c.toNat : Int)).getD i 0)) (by simp [cellsOf, u8, List.getD, List.getElem?_eq_getElem hi])
    exact this) dst hd
  rw [h]
  congr 2
  simp [strOfNums, Function.comp_def]
theorem ba_append (a b : Bs) : (⟨a.toArray⟩ : ByteArray) ++ (⟨b.toArray⟩ : ByteArray) = ⟨(a ++ b).toArray⟩ := by
  apply ByteArray.ext
  simp
theorem ba_extract (l : Bs) (a b : Nat) : (⟨l.toArray⟩ : ByteArray).extract a b = ⟨((l.drop a).take (b - a)).toArray⟩ := by
  apply ByteArray.ext
  simp [ByteArray.extract, ByteArray.copySlice, List.take_drop]
theorem size_mk (l : Bs) : (⟨l.toArray⟩ : ByteArray).size = l.length := by show l.toArray.size = l.length; simp
/-- s[lo:hi] of a string -/
theorem run_sl_mid {P : Program} (w : World) (t : TypeId) (ht : P.underlying t = some .string) (s : Bs) (kl kh : IntKind) (lo hi : Nat) (h1 : lo ≤ hi) (h2 : hi ≤ s.length) :
    (Instr.sliceAt t (.string ⟨s.toArray⟩) (some (.int kl (lo : Int))) (some (.int kh (hi : Int))) none).run P w = .ok (.string ⟨((s.drop lo).take (hi - lo)).toArray⟩) w := by
  rw [run_sliceAt_string w t _ _ _ _ ht, run_slice_string w t _ kl kh lo hi ht (by omega) (by omega) (by rw [size_mk]; omega)]
  simp only [Int.toNat_natCast, ba_extract]
theorem run_sl_to {P : Program} (w : World) (t : TypeId) (ht : P.underlying t = some .string) (s : Bs) (kh : IntKind) (hi : Nat) (h2 : hi ≤ s.length) :
    (Instr.sliceAt t (.string ⟨s.toArray⟩) none (some (.int kh (hi : Int))) none).run P w = .ok (.string ⟨(s.take hi).toArray⟩) w := by
  rw [run_sliceAt_string w t _ _ _ _ ht]
  have hj : 0 ≤ (hi : Int) ∧ (hi : Int) ≤ ((⟨s.toArray⟩ : ByteArray).size : Int) := ⟨by omega, by rw [size_mk]; omega⟩
  simp [Instr.slice, Instr.sliceBounds, Instr.sliceBound, asIntOf, run_underlying ht, hj, ba_extract]
  intro hc; omega
theorem run_sl_from {P : Program} (w : World) (t : TypeId) (ht : P.underlying t = some .string) (s : Bs) (kl : IntKind) (lo : Nat) (h1 : lo ≤ s.length) :
    (Instr.sliceAt t (.string ⟨s.toArray⟩) (some (.int kl (lo : Int))) none none).run P w = .ok (.string ⟨(s.drop lo).toArray⟩) w := by
  rw [run_sliceAt_string w t _ _ _ _ ht]
  have hj : 0 ≤ (lo : Int) ∧ (lo : Int) ≤ ((⟨s.toArray⟩ : ByteArray).size : Int) := ⟨by omega, by rw [size_mk]; omega⟩
  have e : (s.drop lo).take (s.length - lo) = s.drop lo := List.take_of_length_le (by rw [List.length_drop]; omega)
  simp [Instr.slice, Instr.sliceBounds, Instr.sliceBound, asIntOf, run_underlying ht, hj, ba_extract, e, size_mk]
  intro hc; omega
theorem wrap_in (n : Int) (h : -9223372036854775808 ≤ n ∧ n ≤ 9223372036854775807) : IntKind.i64.wrap n = n := by rw [IntKind.wrap_i64]; omega
theorem ba_list (s : ByteArray) : s = ⟨s.data.toList.toArray⟩ := rfl
/-! ### what an operation comes to -/
theorem exec_v {P : Program} {s : Sem Value} {v : Value} {w w' : World} (h : s.run P w = .ok v w') : (Sem.bind s (fun x => Sem.pure (Next.value x))).run P w = .ok (.value v) w' := by
  have := Sem.run_bind (P := P) (w := w) s (fun x => (Sem.pure (Next.value x) : Sem Next))
  show Sem.run P (s >>= fun x => Sem.pure (Next.value x)) w = _
  rw [this, h]; rfl
theorem exec_u {P : Program} {s : Sem Unit} {w w' : World} (h : s.run P w = .ok () w') : (Sem.bind s (fun _ => Sem.pure Next.skip)).run P w = .ok .skip w' := by
  have := Sem.run_bind (P := P) (w := w) s (fun _ => (Sem.pure Next.skip : Sem Next))
  show Sem.run P (s >>= fun _ => Sem.pure Next.skip) w = _
  rw [this, h]; rfl
theorem exec_buildSlice1 {P : Program} {ρ : Operand → Value} {o : Oper} {t : TypeId} {n : Nat} {x : Operand} {v r : Value} {w w' : World} (ho : o.op = .buildSlice t n #[(0, x)]) (hx : ρ x = v)
    (h : (Instr.buildSlice t n #[(0, v)]).run P w = .ok r w') : (execOp ρ o).run P w = .ok (.value r) w' := by
  unfold execOp
  simp only [ho, List.map_toArray, List.map_cons, List.map_nil, hx]
  exact exec_v h
theorem exec_copy {P : Program} {ρ : Operand → Value} {o : Oper} {ts : Array TypeId} {x y : Operand} {vx vy r : Value} {w w' : World} (ho : o.op = .call { callee := .builtin .copy, args := #[x, y], argTypes := ts }) (hx : ρ x = vx) (hy : ρ y = vy)
    (h : (Builtin.copy_ ts o.type #[vx, vy]).run P w = .ok r w') : (execOp ρ o).run P w = .ok (.value r) w' := by
  unfold execOp
  simp only [ho, resolve, invoke, builtin, List.map_toArray, List.map_cons, List.map_nil, hx, hy]
  exact exec_v h
theorem exec_build1 {P : Program} {ρ : Operand → Value} {o : Oper} {t : TypeId} {k : Nat} {x : Operand} {v r : Value} {w w' : World} (ho : o.op = .build t #[(k, x)]) (hx : ρ x = v)
    (h : (Instr.build t #[(k, v)]).run P w = .ok r w') : (execOp ρ o).run P w = .ok (.value r) w' := by
  unfold execOp
  simp only [ho, List.map_toArray, List.map_cons, List.map_nil, hx]
  exact exec_v h
theorem wp_value {P : Program} {o : Oper} {a : Act} {w w' : World} {v : Value} {K : Act → World → Prop} {Q : Exit → Act → World → Prop} (h : (execOp a.eval o).run P w = .ok (.value v) w') (hK : K (a.put o.dst v) w') : o.wp P a w K Q := by
  unfold Oper.wp; rw [h]; exact hK
theorem wp_unit {P : Program} {o : Oper} {a : Act} {w w' : World} {K : Act → World → Prop} {Q : Exit → Act → World → Prop} (h : (execOp a.eval o).run P w = .ok .skip w') (hK : K (a.put o.dst undef) w') : o.wp P a w K Q := by
  unfold Oper.wp; rw [h]; exact hK
/-- one operation of a plain region -/
theorem ls_val {P : Program} {ops : Array Oper} {Q : Exit → Act → World → Prop} {rest : List Oper} {o : Oper} {a : Act} {w w' : World} {v : Value} (hg : o.guard = none) (hr : (execOp a.eval o).run P w = .ok (.value v) w') (h : wpList P ops Q rest (a.put o.dst v) w') : wpList P ops Q (o :: rest) a w :=
  wpList_plain hg fun _ hK => wp_value hr (hK _ _ h)
theorem ls_unit {P : Program} {ops : Array Oper} {Q : Exit → Act → World → Prop} {rest : List Oper} {o : Oper} {a : Act} {w w' : World} (hg : o.guard = none) (hr : (execOp a.eval o).run P w = .ok .skip w') (h : wpList P ops Q rest (a.put o.dst undef) w') : wpList P ops Q (o :: rest) a w :=
  wpList_plain hg fun _ hK => wp_unit hr (hK _ _ h)
theorem ls_same {P : Program} {ops : Array Oper} {Q : Exit → Act → World → Prop} {rest : List Oper} {o : Oper} {a : Act} {w : World} (v : Value) (hg : o.guard = none) (hr : (execOp a.eval o).run P w = .ok (.value v) w) (h : wpList P ops Q rest (a.put o.dst v) w) : wpList P ops Q (o :: rest) a w :=
  ls_val hg hr h
theorem foldl_set (cs : List Value) : ∀ (k : Nat) (A : List Value), A.length = k + cs.length → (cs.zipIdx k).foldl (fun a x => a.setIfInBounds (0 + x.2) x.1) A.toArray = (A.take k ++ cs).toArray := by
  induction cs with
  | nil => intro k A h; simp at h; simp [← h]
  | cons c cs ih =>
    intro k A h
    simp only [List.length_cons] at h
    rw [List.zipIdx_cons, List.foldl_cons]
    have e : A.toArray.setIfInBounds (0 + k) c = (A.set k c).toArray := by simp
    rw [e, ih (k + 1) _ (by simp; omega)]
    congr 1
    rw [List.take_set, List.take_succ_eq_append_getElem (by omega), List.set_append_right _ _ (by rw [List.length_take]; exact Nat.min_le_left _ _)]
    have h1 : k - min k A.length = 0 := by omega
    simp [h1]
theorem run_buildSlice_one {P : Program} (t e : TypeId) (i : TypeInfo) (z : Value) (ht : P.underlying t = some (.slice e)) (hi : P.info? e = some i) (hz : i.zero = some z) (cs : List Value)
    (hs : i.size = cs.length) (h0 : 0 < cs.length) (hle : cs.length ≤ 16777216) (w : World) :
    (Instr.buildSlice t 1 #[(0, .agg cs.toArray)]).run P w = .ok (.slice (some ⟨w.heap.size, 0, none⟩) 1 1) (w.alloc (.cells cs.toArray e)) := by
  have hne : ¬ (1 * i.size = 0) := by omega
  have hlt : ¬ (1 * i.size > 2 ^ 24) := by omega
  have hlen : ((Array.range (1 * i.size)).map (z.cells[· % z.cells.size]!)).size = cs.length := by simp [hs]
  have hfill : Instr.fill (fun j => some (j * i.size, i.size)) ((Array.range (1 * i.size)).map (z.cells[· % z.cells.size]!)) [(0, .agg cs.toArray)] = some cs.toArray := by
    have hsz : (Value.agg cs.toArray).cells.size = cs.length := rfl
    unfold Instr.fill Instr.fill
    simp only [hsz, hlen]
    rw [if_neg (by simp [hs])]
    congr 1
    have hc : (Value.agg cs.toArray).cells = cs.toArray := rfl
    rw [← Array.foldl_toList, Array.toList_zipIdx, hc, Nat.zero_mul]
    have := foldl_set cs 0 ((Array.range (1 * i.size)).map (z.cells[· % z.cells.size]!)).toList (by rw [Array.length_toList, hlen]; omega)
    simp only [Array.toArray_toList, List.take_zero, List.nil_append] at this
    exact this
  simp only [Nat.one_mul] at hfill
  simp [Instr.buildSlice, run_underlying ht, sizeOf, typeInfo, hi, zeroValue, hz, Sem.run_bind, newRow]
  rw [if_neg (by omega), if_neg (by omega), hfill]
  simp [newObj, Sem.run]
end Go.Proofs.Ytnjafdjolfdklaa
