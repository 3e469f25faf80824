/- Walk of sane: the chapter's examples. -/
import Derived.Test.YteilaajjpjhijaaDoorSn
import Derived.Test.YteilaajjpjhijaaDoorX2
import Derived.Test.YteilaajjpjhijaaDoorXb
import Derived.Test.YteilaajjpjhijaaDoorXc
namespace Go.Proofs.YteilaajjpjhijaaDoor
open Go.RowKit PSpec

/-- blocks laid one behind the other -/
def allocs (w : World) (l : List Obj) : World := l.foldl World.alloc w
theorem allocs_below (l : List Obj) : ∀ (w : World) (B : Nat), B ≤ w.heap.size → Below B w (allocs w l) := by
  induction l with
  | nil => exact fun w B _ => Below.refl _ _
  | cons o l ih => exact fun w B h => ((Below.refl _ _).alloc h o).trans (ih (w.alloc o) B (by rw [World.size_alloc]; omega))
theorem allocs_at (l : List Obj) : ∀ (w : World) (i : Nat) (o : Obj), l[i]? = some o → (allocs w l).heap[w.heap.size + i]? = some o := by
  induction l with
  | nil => intro w i o h; simp at h
  | cons x l ih =>
    intro w i o h
    cases i with
    | zero =>
      obtain rfl : x = o := by simpa using h
      have := (allocs_below l (w.alloc x) (w.alloc x).heap.size (Nat.le_refl _)).block w.heap.size (by simp)
      exact this.trans (World.alloc_heap_new w x)
    | succ i =>
      have := ih (w.alloc x) i o (by simpa using h)
      rw [World.size_alloc] at this
      rw [show w.heap.size + (i + 1) = w.heap.size + 1 + i by omega]
      exact this
/-- a row of integers, whole -/
theorem ints_row {W : World} {g : Nat} (l : List Int) (n : Nat) (hn : n = l.length) (h : W.heap[g]? = some (.cells (l.map (Value.int .i64)).toArray 3 (0, 0))) (hl : l.length ≤ 100) (hI : ∀ x, x ∈ l → I64 x) : Ints W (.slice (some ⟨g, 0, none⟩) n n) l := by
  subst hn
  refine ⟨_, l.length, rfl, Nat.le_refl _, by unfold maxLen; omega, hI, fun _ => ⟨g, 0, rfl, fun i x hi => ?_⟩⟩
  rw [Nat.zero_add, cell_of_row W g i _ _ _ h]
  simp [hi]
def sObjs (w : World) : List Obj := [
  .cells #[.int .i64 1, .int .i64 1, .int .i64 2, .int .i64 2, .int .i64 1, .int .i64 3, .int .i64 1, .int .i64 0, .int .i64 1] 59,
  .cells #[.int .i64 3, .int .i64 2, .int .i64 2] 59,
  .cells #[.int .i64 0, .slice (some ⟨w.heap.size, 0, none⟩) 3 3, .int .i64 0, .slice (some ⟨w.heap.size + 1, 0, none⟩) 1 1] 55,
  .cells #[.slice (some ⟨w.heap.size + 1 + 1, 0, none⟩) 2 2] 24,
  .cells #[.int .i64 1, .int .i64 2] 3,
  .cells #[.int .i64 1, .int .i64 1, .int .i64 2, .int .i64 2, .int .i64 1] 3,
  .cells #[.int .i64 1] 3,
  .cells #[.int .i64 2, .int .i64 1] 3,
  .cells #[.int .i64 3] 3,
  .cells #[.slice (some ⟨w.heap.size + 1 + 1 + 1 + 1, 0, none⟩) 2 2, .slice (some ⟨w.heap.size + 1 + 1 + 1 + 1 + 1, 0, none⟩) 5 5, .slice none 0 0, .slice (some ⟨w.heap.size + 1 + 1 + 1 + 1 + 1 + 1, 0, none⟩) 1 1, .slice (some ⟨w.heap.size + 1 + 1 + 1 + 1 + 1 + 1 + 1, 0, none⟩) 2 2, .slice (some ⟨w.heap.size + 1 + 1 + 1 + 1 + 1 + 1 + 1 + 1, 0, none⟩) 1 1] 26,
  .cells #[.int .i64 1, .int .i64 2] 3,
  .cells #[.int .i64 2] 3,
  .cells #[.int .i64 1] 3,
  .cells #[.int .i64 3] 3,
  .cells #[.slice none 0 0, .slice none 0 0, .slice (some ⟨w.heap.size + 1 + 1 + 1 + 1 + 1 + 1 + 1 + 1 + 1 + 1, 0, none⟩) 2 2, .slice (some ⟨w.heap.size + 1 + 1 + 1 + 1 + 1 + 1 + 1 + 1 + 1 + 1 + 1, 0, none⟩) 1 1, .slice (some ⟨w.heap.size + 1 + 1 + 1 + 1 + 1 + 1 + 1 + 1 + 1 + 1 + 1 + 1, 0, none⟩) 1 1, .slice (some ⟨w.heap.size + 1 + 1 + 1 + 1 + 1 + 1 + 1 + 1 + 1 + 1 + 1 + 1 + 1, 0, none⟩) 1 1] 26]
def sW (w : World) : World := allocs w (sObjs w)
theorem small_I64 {l : List Int} (h : l.all (fun x => decide (-100 ≤ x) && decide (x ≤ 100)) = true) : ∀ x, x ∈ l → I64 x := by
  intro x hx
  have := List.all_eq_true.1 h x hx
  simp only [Bool.and_eq_true, decide_eq_true_eq] at this
  exact ⟨by omega, by omega⟩
theorem sW_ints (w : World) (i : Nat) (l : List Int) (n g : Nat) (hg : g = w.heap.size + i) (hn : n = l.length) (h : (sObjs w)[i]? = some (.cells (l.map (Value.int .i64)).toArray 3 (0, 0))) (hs : l.all (fun x => decide (-100 ≤ x) && decide (x ≤ 100)) = true) (hl : l.length ≤ 100) : Ints (sW w) (.slice (some ⟨g, 0, none⟩) n n) l := by
  subst hg
  exact ints_row l n hn (allocs_at _ w i _ h) hl (small_I64 hs)
theorem sW_rules (w : World) : Rules (sW w) (.slice (some ⟨w.heap.size + 2, 0, none⟩) 2 2) sP := by
  have g0 := allocs_at (sObjs w) w 0 _ rfl
  have g1 := allocs_at (sObjs w) w 1 _ rfl
  have g2 := allocs_at (sObjs w) w 2 _ rfl
  have i0 : Items (sW w) (.slice (some ⟨w.heap.size, 0, none⟩) 3 3) [(1, 1, 2), (2, 1, 3), (1, 0, 1)] := by
    refine ⟨_, 3, rfl, Nat.le_refl _, by decide, fun _ => ⟨w.heap.size, 0, rfl, fun i x hi => ?_⟩⟩
    have key : ∀ j, (sW w).cell? ⟨w.heap.size, j, none⟩ = (#[.int .i64 1, .int .i64 1, .int .i64 2, .int .i64 2, .int .i64 1, .int .i64 3, .int .i64 1, .int .i64 0, .int .i64 1] : Array Value)[j]? := fun j => cell_of_row _ _ j _ _ _ g0
    match i, hi with
    | 0, hi => obtain rfl : (1, 1, 2) = x := by simpa using hi
               exact ⟨key 0, key 1, key 2⟩
    | 1, hi => obtain rfl : (2, 1, 3) = x := by simpa using hi
               exact ⟨key 3, key 4, key 5⟩
    | 2, hi => obtain rfl : (1, 0, 1) = x := by simpa using hi
               exact ⟨key 6, key 7, key 8⟩
    | i + 3, hi => simp at hi
  have i1 : Items (sW w) (.slice (some ⟨w.heap.size + 1, 0, none⟩) 1 1) [(3, 2, 2)] := by
    refine ⟨_, 1, rfl, Nat.le_refl _, by decide, fun _ => ⟨w.heap.size + 1, 0, rfl, fun i x hi => ?_⟩⟩
    have key : ∀ j, (sW w).cell? ⟨w.heap.size + 1, j, none⟩ = (#[.int .i64 3, .int .i64 2, .int .i64 2] : Array Value)[j]? := fun j => cell_of_row _ _ j _ _ _ g1
    match i, hi with
    | 0, hi => obtain rfl : (3, 2, 2) = x := by simpa using hi
               exact ⟨key 0, key 1, key 2⟩
    | i + 1, hi => simp at hi
  refine ⟨_, 2, rfl, Nat.le_refl _, by decide, fun _ => ⟨w.heap.size + 2, 0, rfl, fun i r hi => ?_⟩⟩
  have key : ∀ j, (sW w).cell? ⟨w.heap.size + 2, j, none⟩ = (#[.int .i64 0, .slice (some ⟨w.heap.size, 0, none⟩) 3 3, .int .i64 0, .slice (some ⟨w.heap.size + 1, 0, none⟩) 1 1] : Array Value)[j]? := fun j => cell_of_row _ _ j _ _ _ g2
  match i, hi with
  | 0, hi => obtain rfl : (0, [(1, 1, 2), (2, 1, 3), (1, 0, 1)]) = r := by simpa [sP] using hi
             exact ⟨key 0, _, key 1, i0⟩
  | 1, hi => obtain rfl : (0, [(3, 2, 2)]) = r := by simpa [sP] using hi
             exact ⟨key 2, _, key 3, i1⟩
  | i + 2, hi => simp [sP] at hi
theorem sW_c9 (w : World) (k : Nat) : (sW w).cell? ⟨w.heap.size + 9, k, none⟩ = (#[.slice (some ⟨w.heap.size + 1 + 1 + 1 + 1, 0, none⟩) 2 2, .slice (some ⟨w.heap.size + 1 + 1 + 1 + 1 + 1, 0, none⟩) 5 5, .slice none 0 0, .slice (some ⟨w.heap.size + 1 + 1 + 1 + 1 + 1 + 1, 0, none⟩) 1 1, .slice (some ⟨w.heap.size + 1 + 1 + 1 + 1 + 1 + 1 + 1, 0, none⟩) 2 2, .slice (some ⟨w.heap.size + 1 + 1 + 1 + 1 + 1 + 1 + 1 + 1, 0, none⟩) 1 1] : Array Value)[k]? := cell_of_row _ _ k _ _ _ (allocs_at (sObjs w) w 9 _ rfl)
theorem sW_c14 (w : World) (k : Nat) : (sW w).cell? ⟨w.heap.size + 14, k, none⟩ = (#[.slice none 0 0, .slice none 0 0, .slice (some ⟨w.heap.size + 1 + 1 + 1 + 1 + 1 + 1 + 1 + 1 + 1 + 1, 0, none⟩) 2 2, .slice (some ⟨w.heap.size + 1 + 1 + 1 + 1 + 1 + 1 + 1 + 1 + 1 + 1 + 1, 0, none⟩) 1 1, .slice (some ⟨w.heap.size + 1 + 1 + 1 + 1 + 1 + 1 + 1 + 1 + 1 + 1 + 1 + 1, 0, none⟩) 1 1, .slice (some ⟨w.heap.size + 1 + 1 + 1 + 1 + 1 + 1 + 1 + 1 + 1 + 1 + 1 + 1 + 1, 0, none⟩) 1 1] : Array Value)[k]? := cell_of_row _ _ k _ _ _ (allocs_at (sObjs w) w 14 _ rfl)
theorem sW_l0 (w : World) : ∃ vl vw, (sW w).cell? ⟨w.heap.size + 9, 0, none⟩ = some vl ∧ Ints (sW w) vl [1, 2] ∧ (sW w).cell? ⟨w.heap.size + 14, 0, none⟩ = some vw ∧ Ints (sW w) vw [] :=
  ⟨.slice (some ⟨w.heap.size + 1 + 1 + 1 + 1, 0, none⟩) 2 2, .slice none 0 0, (sW_c9 w 0).trans rfl, sW_ints w 4 [1, 2] 2 _ (by omega) rfl rfl rfl (by decide), (sW_c14 w 0).trans rfl, ints_nil _⟩
theorem sW_l1 (w : World) : ∃ vl vw, (sW w).cell? ⟨w.heap.size + 9, 1, none⟩ = some vl ∧ Ints (sW w) vl [1, 1, 2, 2, 1] ∧ (sW w).cell? ⟨w.heap.size + 14, 1, none⟩ = some vw ∧ Ints (sW w) vw [] :=
  ⟨.slice (some ⟨w.heap.size + 1 + 1 + 1 + 1 + 1, 0, none⟩) 5 5, .slice none 0 0, (sW_c9 w 1).trans rfl, sW_ints w 5 [1, 1, 2, 2, 1] 5 _ (by omega) rfl rfl rfl (by decide), (sW_c14 w 1).trans rfl, ints_nil _⟩
theorem sW_l2 (w : World) : ∃ vl vw, (sW w).cell? ⟨w.heap.size + 9, 2, none⟩ = some vl ∧ Ints (sW w) vl [] ∧ (sW w).cell? ⟨w.heap.size + 14, 2, none⟩ = some vw ∧ Ints (sW w) vw [1, 2] :=
  ⟨.slice none 0 0, .slice (some ⟨w.heap.size + 1 + 1 + 1 + 1 + 1 + 1 + 1 + 1 + 1 + 1, 0, none⟩) 2 2, (sW_c9 w 2).trans rfl, ints_nil _, (sW_c14 w 2).trans rfl, sW_ints w 10 [1, 2] 2 _ (by omega) rfl rfl rfl (by decide)⟩
theorem sW_l3 (w : World) : ∃ vl vw, (sW w).cell? ⟨w.heap.size + 9, 3, none⟩ = some vl ∧ Ints (sW w) vl [1] ∧ (sW w).cell? ⟨w.heap.size + 14, 3, none⟩ = some vw ∧ Ints (sW w) vw [2] :=
  ⟨.slice (some ⟨w.heap.size + 1 + 1 + 1 + 1 + 1 + 1, 0, none⟩) 1 1, .slice (some ⟨w.heap.size + 1 + 1 + 1 + 1 + 1 + 1 + 1 + 1 + 1 + 1 + 1, 0, none⟩) 1 1, (sW_c9 w 3).trans rfl, sW_ints w 6 [1] 1 _ (by omega) rfl rfl rfl (by decide), (sW_c14 w 3).trans rfl, sW_ints w 11 [2] 1 _ (by omega) rfl rfl rfl (by decide)⟩
theorem sW_l4 (w : World) : ∃ vl vw, (sW w).cell? ⟨w.heap.size + 9, 4, none⟩ = some vl ∧ Ints (sW w) vl [2, 1] ∧ (sW w).cell? ⟨w.heap.size + 14, 4, none⟩ = some vw ∧ Ints (sW w) vw [1] :=
  ⟨.slice (some ⟨w.heap.size + 1 + 1 + 1 + 1 + 1 + 1 + 1, 0, none⟩) 2 2, .slice (some ⟨w.heap.size + 1 + 1 + 1 + 1 + 1 + 1 + 1 + 1 + 1 + 1 + 1 + 1, 0, none⟩) 1 1, (sW_c9 w 4).trans rfl, sW_ints w 7 [2, 1] 2 _ (by omega) rfl rfl rfl (by decide), (sW_c14 w 4).trans rfl, sW_ints w 12 [1] 1 _ (by omega) rfl rfl rfl (by decide)⟩
theorem sW_l5 (w : World) : ∃ vl vw, (sW w).cell? ⟨w.heap.size + 9, 5, none⟩ = some vl ∧ Ints (sW w) vl [3] ∧ (sW w).cell? ⟨w.heap.size + 14, 5, none⟩ = some vw ∧ Ints (sW w) vw [3] :=
  ⟨.slice (some ⟨w.heap.size + 1 + 1 + 1 + 1 + 1 + 1 + 1 + 1, 0, none⟩) 1 1, .slice (some ⟨w.heap.size + 1 + 1 + 1 + 1 + 1 + 1 + 1 + 1 + 1 + 1 + 1 + 1 + 1, 0, none⟩) 1 1, (sW_c9 w 5).trans rfl, sW_ints w 8 [3] 1 _ (by omega) rfl rfl rfl (by decide), (sW_c14 w 5).trans rfl, sW_ints w 13 [3] 1 _ (by omega) rfl rfl rfl (by decide)⟩
theorem sW_lists (w : World) : ∀ k, k < 6 → ∃ vl vw, (sW w).cell? ⟨w.heap.size + 9, k, none⟩ = some vl ∧ Ints (sW w) vl (allL.getD k []) ∧ (sW w).cell? ⟨w.heap.size + 14, k, none⟩ = some vw ∧ Ints (sW w) vw (wantL.getD k []) := by
  intro k hk
  match k, hk with
  | 0, _ => exact sW_l0 w
  | 1, _ => exact sW_l1 w
  | 2, _ => exact sW_l2 w
  | 3, _ => exact sW_l3 w
  | 4, _ => exact sW_l4 w
  | 5, _ => exact sW_l5 w
end Go.Proofs.YteilaajjpjhijaaDoor
