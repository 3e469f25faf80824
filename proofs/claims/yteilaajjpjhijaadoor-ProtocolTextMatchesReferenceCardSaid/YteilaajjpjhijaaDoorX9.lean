/- Walk of the reader's rule: the state of its loop. -/
import Derived.Test.YteilaajjpjhijaaDoorX8
import Derived.Test.YteilaajjpjhijaaDoorReg2
namespace Go.Proofs.YteilaajjpjhijaaDoor
open Go.RowKit PSpec

def itCells (its : List It) : List Value := its.flatMap fun x => [.int .i64 x.1, .int .i64 x.2.1, .int .i64 x.2.2]
theorem itCells_snoc (its : List It) (x : It) : itCells (its ++ [x]) = itCells its ++ [.int .i64 x.1, .int .i64 x.2.1, .int .i64 x.2.2] := by simp [itCells]
theorem itCells_get (its : List It) (i : Nat) (x : It) (h : its[i]? = some x) : (itCells its)[i * 3]? = some (.int .i64 x.1) ∧ (itCells its)[i * 3 + 1]? = some (.int .i64 x.2.1) ∧ (itCells its)[i * 3 + 2]? = some (.int .i64 x.2.2) := by
  induction its generalizing i with
  | nil => simp at h
  | cons a its ih =>
    have e : itCells (a :: its) = .int .i64 a.1 :: .int .i64 a.2.1 :: .int .i64 a.2.2 :: itCells its := rfl
    cases i with
    | zero =>
      obtain rfl : a = x := by simpa using h
      exact ⟨rfl, rfl, rfl⟩
    | succ i =>
      have := ih i (by simpa using h)
      rw [e, show (i + 1) * 3 = i * 3 + 1 + 1 + 1 by omega]
      simpa using this
theorem items_own {w : World} {base : Nat} {iv : Value} {its : List It} (h : w.ownsRow base 59 3 iv its.length (itCells its)) : Items w iv its := by
  have h' := h
  rcases h.2 with ⟨rfl, h0⟩ | ⟨g, cap, cur, rfl, _, hg, hnc, hcm, _, _⟩
  · obtain rfl : its = [] := List.length_eq_zero_iff.1 h0
    exact ⟨none, 0, rfl, Nat.le_refl _, by decide, fun h => absurd rfl h⟩
  · refine ⟨some ⟨g, 0, none⟩, cap, rfl, hnc, hcm, fun _ => ⟨g, 0, rfl, fun i x hi => ?_⟩⟩
    obtain ⟨g0, g1, g2⟩ := itCells_get its i x hi
    have hcl := h'.cells (g := g) rfl
    have e0 := hcl _ _ g0
    have e1 := hcl _ _ g1
    have e2 := hcl _ _ g2
    rw [Addr.add_mid] at e0 e1 e2
    exact ⟨by rw [show 0 + i * 3 = 0 + i * 3 from rfl]; exact e0, by rw [show 0 + i * 3 + 1 = 0 + (i * 3 + 1) by omega]; exact e1, by rw [show 0 + i * 3 + 2 = 0 + (i * 3 + 2) by omega]; exact e2⟩
theorem own_base {w : World} {base base' : Nat} {e : TypeId} {size n : Nat} {v : Value} {xs : List Value} (h : w.ownsRow base e size v n xs) (hb : base' ≤ base) : w.ownsRow base' e size v n xs := by
  refine ⟨h.1, ?_⟩
  rcases h.2 with h | ⟨g, cap, cur, h1, h2, h3⟩
  · exact .inl h
  · exact .inr ⟨g, cap, cur, h1, Nat.le_trans hb h2, h3⟩

theorem own_bel {w w' : World} {base e size n : Nat} {v : Value} {xs : List Value} (h : w.ownsRow base e size v n xs) (hb : Below w.heap.size w w') : w'.ownsRow base e size v n xs :=
  h.kept (grownBel hb none) (by
    cases hv : v.ownBlock with
    | none => exact .inl rfl
    | some g => exact .inr (by simp))
theorem own_slice {w : World} {base e size n : Nat} {v : Value} {xs : List Value} (h : w.ownsRow base e size v n xs) : ∃ a c, v = .slice a n c := by
  rcases h.2 with ⟨h1, h2⟩ | ⟨g, cap, cur, h1, _⟩
  · exact ⟨none, 0, by rw [h1, h2]⟩
  · exact ⟨_, cap, h1⟩
theorem new_cells (W : World) (l : List Value) (t : TypeId) (g : Nat) (hg : g = W.heap.size) : ∀ j u, l[j]? = some u → (W.alloc (.cells l.toArray t)).cell? ((⟨g, 0, none⟩ : Addr).add j) = some u := by
  intro j u h
  subst hg
  rw [Addr.add_mid, Nat.zero_add, cell_of_row _ _ j l.toArray t (0, 0) (World.alloc_heap_new W _)]
  simpa using h
/-- the loop's state -/
structure RS (w0 : World) (b : Nat) (v : Value) (X : Nat) (s : Bs) (op : Int) (iv : Value) (its : List It) (W : World) : Prop where
  rb : RB W b s v
  xb : W.heap[X]? = some (.cells #[.int .i64 op, iv] 55 (0, 0))
  own : W.ownsRow w0.heap.size 59 3 iv its.length (itCells its)
  gr : w0.grownBy W (some b)
  xl : w0.heap.size ≤ X
theorem RS.grown {w0 W W' : World} {b X : Nat} {v iv : Value} {s t : Bs} {op : Int} {its : List It} (h : RS w0 b v X s op iv its W) (hb : b < w0.heap.size) (hg : W.grownBy W' (some b)) (hr : RB W' b t v) : RS w0 b v X t op iv its W' :=
  ⟨hr, (hg.block X (heap_lt h.xb) (by simp; have := h.xl; omega)).trans h.xb, h.own.kept hg (by
    cases hv : iv.ownBlock with
    | none => exact .inl rfl
    | some g => exact .inr (by have := (h.own.lt g hv).1; simp; omega)), grown_trans h.gr hg, h.xl⟩
theorem RS.below {w0 W W' : World} {b X : Nat} {v iv : Value} {s : Bs} {op : Int} {its : List It} (h : RS w0 b v X s op iv its W) (hb : b < w0.heap.size) (hg : Below W.heap.size W W') : RS w0 b v X s op iv its W' :=
  h.grown hb (grownBel hg _) (h.rb.below hg)
theorem RS.items {w0 W : World} {b X : Nat} {v iv : Value} {s : Bs} {op : Int} {its : List It} (h : RS w0 b v X s op iv its W) : Items W iv its := items_own h.own
theorem skipP_len (c : UInt8) (s : Bs) : (skipP c s).length ≤ s.length := by
  unfold skipP; split <;> simp
theorem numP_len (e s : Bs) : (numP e s).2.length ≤ s.length := by
  unfold numP
  split
  · exact Nat.le_refl _
  · split
    · exact Nat.le_refl _
    · simp
theorem itP_len (s : Bs) : (itP s).2.length ≤ s.length := by
  unfold itP
  simp only
  exact Nat.le_trans (numP_len _ _) (Nat.le_trans (skipP_len _ _) (Nat.le_trans (numP_len _ _) (Nat.le_trans (skipP_len _ _) (numP_len _ _))))
theorem loopP_len : ∀ (k : Nat) (x y : Rl) (s t : Bs), loopP k x s = some (y, t) → t.length ≤ s.length := by
  intro k
  induction k with
  | zero => intro x y s t h; simp [loopP] at h
  | succ k ih =>
    intro x y s t h
    unfold loopP at h
    split at h
    · split at h
      · have := ih _ _ _ _ h
        exact Nat.le_trans this (Nat.le_trans (itP_len _) (by simp))
      · simp at h
    · obtain ⟨rfl, rfl⟩ : x = y ∧ s = t := by simpa using h
      exact Nat.le_refl _
theorem part59 : ∃ i0, Hid (Tryd.prog.info? 59 = some i0 ∧ i0.zero = some (.agg #[.int .i64 0, .int .i64 0, .int .i64 0]) ∧ i0.size = 3 ∧ i0.bytes = 24) := by
  obtain ⟨i0, hi, hz0, hz1, hz2⟩ := info_parts (P := Tryd.prog) (e := 59) (z := .agg #[.int .i64 0, .int .i64 0, .int .i64 0]) (size := 3) (bytes := 24) (by kernel_rfl)
  exact ⟨i0, hi, hz0, hz1, hz2⟩
theorem info55 : (Tryd.prog.info? 55).map (fun i => (i.zero, i.size, i.bytes)) = some (some (.agg #[.int .i64 0, .slice none 0 0]), 2, 32) := by kernel_rfl

/-- an item's own block -/
def IB (W : World) (Y : Nat) (a l m : Int) : Prop := W.heap[Y]? = some (.cells #[.int .i64 a, .int .i64 l, .int .i64 m] 59 (0, 0))
theorem IB.grown {W W' : World} {Y b : Nat} {a l m : Int} (h : IB W Y a l m) (hg : W.grownBy W' (some b)) (hb : Y ≠ b) : IB W' Y a l m :=
  (hg.block Y (heap_lt h) (by simp; exact hb)).trans h
theorem IB.cell {W : World} {Y : Nat} {a l m : Int} (h : IB W Y a l m) : W.cell? ⟨Y, 0, none⟩ = some (.int .i64 a) ∧ W.cell? ⟨Y, 1, none⟩ = some (.int .i64 l) ∧ W.cell? ⟨Y, 2, none⟩ = some (.int .i64 m) := by
  refine ⟨?_, ?_, ?_⟩
  · rw [cell_of_row W Y 0 _ _ _ h]; rfl
  · rw [cell_of_row W Y 1 _ _ _ h]; rfl
  · rw [cell_of_row W Y 2 _ _ _ h]; rfl
theorem IB.fr {W : World} {Y : Nat} {a l m : Int} (h : IB W Y a l m) (i : Nat) : W.frozen? ⟨Y, i, none⟩ = false := frozen_of_row W Y i _ _ h
theorem IB.set1 {W : World} {Y : Nat} {a l m : Int} (h : IB W Y a l m) (n : Int) : IB (W.setCell ⟨Y, 1, none⟩ (.int .i64 n)) Y a n m := by
  unfold IB at h ⊢
  simp [World.setCell, Array.getElem?_modify, h]
theorem IB.set2 {W : World} {Y : Nat} {a l m : Int} (h : IB W Y a l m) (n : Int) : IB (W.setCell ⟨Y, 2, none⟩ (.int .i64 n)) Y a l n := by
  unfold IB at h ⊢
  simp [World.setCell, Array.getElem?_modify, h]
theorem RS.setY {w0 W : World} {b X Y : Nat} {v iv : Value} {s : Bs} {op : Int} {its : List It} (h : RS w0 b v X s op iv its W) (hb : Y ≠ b) (hx : Y ≠ X) (hi : iv.ownBlock ≠ some Y) (hy : w0.heap.size ≤ Y) (i : Nat) (u : Value) :
    RS w0 b v X s op iv its (W.setCell ⟨Y, i, none⟩ u) := by
  have hg : W.grownBy (W.setCell ⟨Y, i, none⟩ u) (some Y) := grown_set (grownBel (Below.refl _ _) _) _ _
  refine ⟨(hg.block b h.rb.lt (by simp; omega)).trans h.rb, (hg.block X (heap_lt h.xb) (by simp; omega)).trans h.xb, h.own.kept hg (.inr hi), ?_, h.xl⟩
  exact ⟨h.gr.os, h.gr.tape, h.gr.output, by have := h.gr.size; simpa [World.setCell] using this, fun k hk hne => (hg.block k (Nat.lt_of_lt_of_le hk h.gr.size) (by simp; omega)).trans (h.gr.block k hk hne)⟩
theorem RS.xcell {w0 W : World} {b X : Nat} {v iv : Value} {s : Bs} {op : Int} {its : List It} (h : RS w0 b v X s op iv its W) :
    W.cell? ⟨X, 0, none⟩ = some (.int .i64 op) ∧ W.cell? ⟨X, 1, none⟩ = some iv ∧ (∀ i, W.frozen? ⟨X, i, none⟩ = false) := by
  refine ⟨?_, ?_, fun i => frozen_of_row W X i _ _ h.xb⟩
  · rw [cell_of_row W X 0 _ _ _ h.xb]; rfl
  · rw [cell_of_row W X 1 _ _ _ h.xb]; rfl
/-- an item comes in -/
theorem RS.put {w0 W W' : World} {b X : Nat} {v iv iv' : Value} {s : Bs} {op : Int} {its : List It} {x : It} (h : RS w0 b v X s op iv its W) (hb : b < w0.heap.size)
    (hown : W'.ownsRow w0.heap.size 59 3 iv' (its.length + 1) (itCells its ++ [.int .i64 x.1, .int .i64 x.2.1, .int .i64 x.2.2])) (hg : W.grownBy W' iv.ownBlock) (hX : iv'.ownBlock ≠ some X) :
    RS w0 b v X s op iv' (its ++ [x]) (W'.setCell ⟨X, 1, none⟩ iv') := by
  have hivX : iv.ownBlock ≠ some X := by
    intro he
    rcases h.own.2 with ⟨rfl, _⟩ | ⟨g, cap, cur, rfl, _, hgg, _⟩
    · simp [Value.ownBlock] at he
    · have : g = X := by simpa [Value.ownBlock] using he
      subst this
      rw [h.xb] at hgg
      simp at hgg
  have hivb : iv.ownBlock ≠ some b := by
    intro he
    have := (h.own.lt b he).1
    omega
  have hxb' : W'.heap[X]? = some (.cells #[.int .i64 op, iv] 55 (0, 0)) := (hg.block X (heap_lt h.xb) (fun e => hivX e.symm)).trans h.xb
  have hg2 : W'.grownBy (W'.setCell ⟨X, 1, none⟩ iv') (some X) := grown_set (grownBel (Below.refl _ _) _) _ _
  have hrb' : RB W' b s v := (hg.block b h.rb.lt (fun e => hivb e.symm)).trans h.rb
  refine ⟨(hg2.block b hrb'.lt (by simp; have := h.xl; omega)).trans hrb', ?_, ?_, ?_, h.xl⟩
  · simp [World.setCell, Array.getElem?_modify, hxb']
  · rw [List.length_append, List.length_singleton, itCells_snoc]
    exact hown.kept hg2 (.inr hX)
  · have hX0 := h.xl
    refine ⟨hg.os.trans h.gr.os, hg.tape.trans h.gr.tape, hg.output.trans h.gr.output, by have h1 := h.gr.size; have h2 := hg.size; simp [World.setCell]; omega, fun k hk hne => ?_⟩
    rw [hg2.block k (Nat.lt_of_lt_of_le (Nat.lt_of_lt_of_le hk h.gr.size) hg.size) (by simp; omega), hg.block k (Nat.lt_of_lt_of_le hk h.gr.size) (fun e => by have := (h.own.lt k e.symm).1; omega)]
    exact h.gr.block k hk hne
structure Fr (b : Nat) (v : Value) (w w' : World) : Prop where
  os : w'.os = w.os
  tape : w'.tape = w.tape
  output : w'.output = w.output
  size : w.heap.size ≤ w'.heap.size
  block : ∀ k, k < w.heap.size → k ≠ b → some k ≠ v.ownBlock → w'.heap[k]? = w.heap[k]?
theorem Fr.grown {b : Nat} {v : Value} {w w' w'' : World} (h : Fr b v w w') (hg : w'.grownBy w'' (some b)) : Fr b v w w'' :=
  ⟨hg.os.trans h.os, hg.tape.trans h.tape, hg.output.trans h.output, Nat.le_trans h.size hg.size, fun k hk h1 h2 => (hg.block k (Nat.lt_of_lt_of_le hk h.size) (by simp; exact h1)).trans (h.block k hk h1 h2)⟩
/-- the state behind the loop, the rule taken in -/
structure RE (w0 : World) (b : Nat) (v : Value) (X : Nat) (t : Bs) (op : Int) (iv : Value) (its : List It) (v' : Value) (n : Nat) (xs : List Value) (W : World) : Prop where
  rb : RB W b t v'
  xb : W.heap[X]? = some (.cells #[.int .i64 op, iv] 55 (0, 0))
  own : W.ownsRow w0.heap.size 59 3 iv its.length (itCells its)
  row : W.ownsRow (b + 1) 55 2 v' n xs
  fr : Fr b v w0 W
theorem RE.grown {w0 W W' : World} {b X n : Nat} {v v' iv : Value} {s t : Bs} {op : Int} {its : List It} {xs : List Value} (h : RE w0 b v X s op iv its v' n xs W) (hb : b < w0.heap.size) (hX : w0.heap.size ≤ X) (hg : W.grownBy W' (some b)) (hr : RB W' b t v') :
    RE w0 b v X t op iv its v' n xs W' :=
  ⟨hr, (hg.block X (heap_lt h.xb) (by simp; omega)).trans h.xb, h.own.kept hg (by
    cases hv : iv.ownBlock with
    | none => exact .inl rfl
    | some g => exact .inr (by have := (h.own.lt g hv).1; simp; omega)), h.row.kept hg (by
    cases hv : v'.ownBlock with
    | none => exact .inl rfl
    | some g => exact .inr (by have := (h.row.lt g hv).1; simp; omega)), h.fr.grown hg⟩
theorem RE.below {w0 W W' : World} {b X n : Nat} {v v' iv : Value} {s : Bs} {op : Int} {its : List It} {xs : List Value} (h : RE w0 b v X s op iv its v' n xs W) (hb : b < w0.heap.size) (hX : w0.heap.size ≤ X) (hg : Below W.heap.size W W') :
    RE w0 b v X s op iv its v' n xs W' := h.grown hb hX (grownBel hg _) (h.rb.below hg)
/-- the rule is taken in -/
theorem RE.mk_ {w0 W W' : World} {b X n : Nat} {v v' iv : Value} {t : Bs} {op : Int} {its : List It} {ys xs : List Value} (h : RS w0 b v X t op iv its W) (hb : b < w0.heap.size) (hv0 : w0.ownsRow (b + 1) 55 2 v n ys)
    (hg : W.grownBy W' v.ownBlock) (hrow : W'.ownsRow (b + 1) 55 2 v' (n + 1) xs) (_hat : v'.ownBlock = v.ownBlock ∨ v'.ownBlock = some W.heap.size) :
    RE w0 b v X t op iv its v' (n + 1) xs (W'.setCell ⟨b, 1, none⟩ v') := by
  have hvb : ∀ g, v.ownBlock = some g → b + 1 ≤ g ∧ g < w0.heap.size := fun g hg => hv0.lt g hg
  have hg2 : W'.grownBy (W'.setCell ⟨b, 1, none⟩ v') (some b) := grown_set (grownBel (Below.refl _ _) _) _ _
  have hrb' : RB W' b t v := (hg.block b h.rb.lt (fun e => by have := hvb b e.symm; omega)).trans h.rb
  have hx' : W'.heap[X]? = some (.cells #[.int .i64 op, iv] 55 (0, 0)) := (hg.block X (heap_lt h.xb) (fun e => by have := hvb X e.symm; have := h.xl; omega)).trans h.xb
  have hX := h.xl
  refine ⟨hrb'.set1 v', (hg2.block X (heap_lt hx') (by simp; omega)).trans hx', ?_, ?_, ?_⟩
  · refine (h.own.kept hg ?_).kept hg2 ?_
    · cases hv : iv.ownBlock with
      | none => exact .inl rfl
      | some g =>
        refine .inr fun e => ?_
        have h1 := (h.own.lt g hv).1
        have h2 := (hvb g e.symm).2
        omega
    · cases hv : iv.ownBlock with
      | none => exact .inl rfl
      | some g => exact .inr (by have h1 := (h.own.lt g hv).1; simp; omega)
  · refine hrow.kept hg2 ?_
    cases hv : v'.ownBlock with
    | none => exact .inl rfl
    | some g => exact .inr (by have h1 := (hrow.lt g hv).1; simp; omega)
  · refine Fr.grown (w' := W') ⟨hg.os.trans h.gr.os, hg.tape.trans h.gr.tape, hg.output.trans h.gr.output, Nat.le_trans h.gr.size hg.size, fun k hk h1 h2 => ?_⟩ hg2
    exact (hg.block k (Nat.lt_of_lt_of_le hk h.gr.size) h2).trans (h.gr.block k hk (by simp; exact h1))
theorem Fr.low {b n : Nat} {v : Value} {w w' : World} {ys : List Value} (h : Fr b v w w') (hv0 : w.ownsRow (b + 1) 55 2 v n ys) (hb : b < w.heap.size) : Below b w w' :=
  ⟨h.os, h.tape, h.output, h.size, fun k hk => h.block k (by omega) (by omega) (fun e => by have := (hv0.lt k e.symm).1; omega)⟩

/-- where the loop fails: nothing below the reader has turned -/
def NoRule (b : Nat) (w : World) (e : Ending) (w' : World) : Prop := e = .returned (.bool false) ∧ w.grownBy w' (some b)
end Go.Proofs.YteilaajjpjhijaaDoor
