/- Whole rows of cells under one name: reading and writing an array of twelve counts without taking it apart. -/
import Derived.Test.YteilaajjpjhijaaDoorMem
import Derived.Deep.RegionHeld3
namespace Go.Proofs.YteilaajjpjhijaaDoor
open Go.RowKit PSpec

/-- the cells of a row that may be written -/
def ocells : Obj → Array Value
  | .cells c _ fr => if fr = (0, 0) then c else #[]
  | _ => #[]
/-- the cells of block g, if it is such a row -/
def rowC (w : World) (g : Nat) : Array Value := ((w.heap[g]?).map ocells).getD #[]

theorem rowC_of {w : World} {g : Nat} {c : Array Value} {t : TypeId} (h : w.heap[g]? = some (.cells c t (0, 0))) : rowC w g = c := by
  unfold rowC; rw [h]; simp [ocells]
theorem rowC_heap {w : World} {g : Nat} (h : 0 < (rowC w g).size) : ∃ t, w.heap[g]? = some (.cells (rowC w g) t (0, 0)) := by
  unfold rowC at h ⊢
  cases e : w.heap[g]? with
  | none => simp [e] at h
  | some o =>
    cases o with
    | cells c t fr =>
      by_cases h0 : fr = (0, 0)
      · subst h0; exact ⟨t, by simp [ocells]⟩
      · simp [e, ocells, h0] at h
    | _ => simp [e, ocells] at h
theorem rowC_lt {w : World} {g : Nat} (h : 0 < (rowC w g).size) : g < w.heap.size := by
  obtain ⟨t, ht⟩ := rowC_heap h
  exact (Array.getElem?_eq_some_iff.1 ht).1
@[go_sem] theorem rowC_alloc (w : World) (o : Obj) (g : Nat) : rowC (w.alloc o) g = if g = w.heap.size then ocells o else rowC w g := by
  unfold rowC World.alloc
  simp only [Array.getElem?_push]
  split <;> simp
@[go_sem] theorem ocells_cells (c : Array Value) (t : TypeId) : ocells (.cells c t) = c := by simp [ocells]
@[go_sem] theorem rowC_drew (w : World) (g : Nat) : rowC w.drew g = rowC w g := rfl
theorem rowC_below {B g : Nat} {w w' : World} (h : Below B w w') (hg : g < B) : rowC w' g = rowC w g := by
  unfold rowC; rw [h.block g hg]
theorem rowC_cell {w : World} {g : Nat} (i : Nat) (v : Value) (h : (rowC w g)[i]? = some v) : w.cell? ⟨g, i, none⟩ = some v := by
  have h0 : 0 < (rowC w g).size := by
    have := (Array.getElem?_eq_some_iff.1 h).1; omega
  obtain ⟨t, ht⟩ := rowC_heap h0
  rw [cell_of_row w g i _ _ _ ht]; exact h
theorem rowC_frozen {w : World} {g : Nat} (i : Nat) (h : 0 < (rowC w g).size) : w.frozen? ⟨g, i, none⟩ = false := by
  obtain ⟨t, ht⟩ := rowC_heap h
  exact frozen_of_row w g i _ _ ht
@[go_sem] theorem rowC_setCell (w : World) (g i g' : Nat) (v : Value) :
    rowC (w.setCell ⟨g, i, none⟩ v) g' = if g' = g then (rowC w g).setIfInBounds i v else rowC w g' := by
  by_cases e : g' = g
  · subst e
    rw [if_pos rfl]
    unfold rowC World.setCell
    simp only [Array.getElem?_modify, if_true]
    cases h : w.heap[g']? with
    | none => simp
    | some o =>
      cases o with
      | cells c t fr =>
        by_cases h0 : fr = (0, 0) <;> simp [ocells, h0]
      | _ => simp [ocells]
  · rw [if_neg e]
    unfold rowC
    rw [Below.heap_setCell w ⟨g, i, none⟩ v g' e]
theorem rowC_setRow {w : World} {g : Nat} (A : Array Value) (h : 0 < (rowC w g).size) : rowC (w.setRow g A) g = A := by
  obtain ⟨t, ht⟩ := rowC_heap h
  exact rowC_of (setRow_heap w g _ A t _ ht)
theorem rowC_setRow_other {w : World} {g g' : Nat} (A : Array Value) (h : g' ≠ g) : rowC (w.setRow g A) g' = rowC w g' := by
  unfold rowC; rw [setRow_other w g g' A h]
@[go_sem] theorem alloc_setRow (w : World) (g : Nat) (c A : Array Value) (t : TypeId) (h : g = w.heap.size) : (w.alloc (.cells c t)).setRow g A = w.alloc (.cells A t) := by
  subst h
  unfold World.setRow World.alloc
  congr 1
  apply Array.ext_getElem?
  intro i
  simp only [Array.getElem?_modify, Array.getElem?_push]
  by_cases e : w.heap.size = i
  · subst e; simp
  · rw [if_neg e]; simp [Ne.symm e]

def cells1 (A : Array Value) : Bool := A.all (·.oneCell')

theorem wpList_load66 {ops : Array Oper} {rest : List Oper} {o : Oper} {a : Act} {w : World} {Q : Exit → Act → World → Prop} (hgd : o.guard = none) (x : Operand) (ho : o.op = .load 66 x)
    (g : Nat) (hx : a.eval x = .pointer (some ⟨g, 0, none⟩)) (A : Array Value) (hr : rowC w g = A) (hA : A.size = 12)
    (h : wpList Tryd.prog ops Q rest (a.put o.dst (.agg A)) w) : wpList Tryd.prog ops Q (o :: rest) a w := by
  obtain ⟨t, ht⟩ := rowC_heap (w := w) (g := g) (by rw [hr]; omega)
  rw [hr] at ht
  exact wpList_load_row hgd 66 x ho g hx t A (0, 0) _ ht Tryd.underlying66 rfl (by rw [hA]; kernel_rfl) h
theorem wpList_store66 {ops : Array Oper} {rest : List Oper} {o : Oper} {a : Act} {w : World} {Q : Exit → Act → World → Prop} (hgd : o.guard = none) (x y : Operand) (ho : o.op = .store 66 x y)
    (g : Nat) (A B : Array Value) (hx : a.eval x = .pointer (some ⟨g, 0, none⟩)) (hy : a.eval y = .agg A) (hr : rowC w g = B) (hB : B.size = 12) (hA : A.size = 12) (h1 : cells1 A = true)
    (h : wpList Tryd.prog ops Q rest (a.put o.dst undef) (w.setRow g A)) : wpList Tryd.prog ops Q (o :: rest) a w := by
  obtain ⟨t, ht⟩ := rowC_heap (w := w) (g := g) (by rw [hr]; omega)
  rw [hr] at ht
  exact wpList_plain hgd fun _ hK => wp_store_row 66 x y ho g A hx hy t B ht (by rw [hA]; kernel_rfl) (by omega) h1 (hK _ _ h)

/-- the array of counts -/
def arrL (c : Nat → Int) : List Value := (List.range 12).map fun i => Value.int .i64 (c i)
theorem arrL_len (c : Nat → Int) : (arrL c).length = 12 := by simp [arrL]
def arrC (c : Nat → Int) : Array Value := (arrL c).toArray
@[go_sem] theorem arrC_size (c : Nat → Int) : (arrC c).size = 12 := by simp [arrC, arrL_len]
@[go_sem] theorem arrC_cells1 (c : Nat → Int) : cells1 (arrC c) = true := by
  unfold cells1 arrC arrL
  simp [Value.oneCell']
theorem arrC_get (c : Nat → Int) (k : Nat) (h : k < 12) : (arrC c)[k]? = some (.int .i64 (c k)) := by
  simp [arrC, arrL, h]
theorem range_row {w : World} {g : Nat} {c : Nat → Int} (h : rowC w g = arrC c) : w.rangeAt g 0 (arrL c) := by
  intro j v hv
  rw [Nat.zero_add]
  exact rowC_cell j v (by rw [h]; simpa [arrC] using hv)
theorem range_below {w w' : World} {g o : Nat} {L : List Value} (h : w.rangeAt g o L) (hb : Below w.heap.size w w') : w'.rangeAt g o L :=
  fun j v hv => keeps_of_below hb _ _ (h j v hv)
theorem info66 : (Tryd.prog.info? 66).map (·.size) = some 12 := by kernel_rfl
end Go.Proofs.YteilaajjpjhijaaDoor
