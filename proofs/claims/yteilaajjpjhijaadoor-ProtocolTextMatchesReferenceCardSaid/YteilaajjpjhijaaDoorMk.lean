/- The state of the loop of Made: rules of the call's own, each with items of its own; what turns it. -/
import Derived.Test.YteilaajjpjhijaaDoorXb
import Derived.Test.YteilaajjpjhijaaDoorPl
import Derived.Test.YteilaajjpjhijaaDoorRq
namespace Go.Proofs.YteilaajjpjhijaaDoor
open Go.RowKit PSpec

/-- how the numbers of a protocol lie in memory: four to an element, whatever they are -/
def Fours (w : World) (v : Value) (n : Nat) : Prop :=
  ∃ a cap, v = .slice a n cap ∧ n ≤ cap ∧ cap ≤ maxLen ∧
    (0 < n → ∃ b o, a = some ⟨b, o, none⟩ ∧ ∀ i j : Nat, i < n → j < 4 → ∃ z : Int, I64 z ∧ w.cell? ⟨b, o + i * 4 + j, none⟩ = some (.int .i64 z))
theorem Fours.keep {w w' : World} {v : Value} {n : Nat} (h : Fours w v n) (k : Keeps w w') : Fours w' v n := by
  obtain ⟨a, cap, hv, h1, h2, h3⟩ := h
  refine ⟨a, cap, hv, h1, h2, fun hne => ?_⟩
  obtain ⟨b, o, e, hc⟩ := h3 hne
  refine ⟨b, o, e, fun i j hi hj => ?_⟩
  obtain ⟨z, hz, e⟩ := hc i j hi hj
  exact ⟨z, hz, k _ _ e⟩
theorem Fours.below {w w' : World} {v : Value} {n : Nat} (h : Fours w v n) (k : Below w.heap.size w w') : Fours w' v n := h.keep (keeps_of_below k)

/-- a cell of a row of the call's own is written -/
theorem own_set {w : World} {base e size n g cap : Nat} {xs : List Value} (h : w.ownsRow base e size (.slice (some ⟨g, 0, none⟩) n cap) n xs) (i : Nat) (u : Value) (_hi : i < xs.length) :
    (w.setCell ⟨g, i, none⟩ u).ownsRow base e size (.slice (some ⟨g, 0, none⟩) n cap) n (xs.set i u) := by
  rcases h.2 with ⟨e0, _⟩ | ⟨g', cap', cur, e0, hb, hg, hn, hm, hs, ht⟩
  · cases e0
  · injection e0 with e1 _ e3
    injection e1 with e1
    injection e1 with e1
    subst e1; subst e3
    have hlt := heap_lt hg
    have hg' : w.heap[g] = .cells cur e (0, 0) := by simpa [Array.getElem?_eq_getElem hlt] using hg
    have hxl := h.1
    refine ⟨by rw [List.length_set]; exact h.1, .inr ⟨g, cap, cur.setIfInBounds i u, rfl, hb, ?_, hn, hm, by simpa using hs, ?_⟩⟩
    · show (w.heap.modify g _)[g]? = _
      rw [Array.getElem?_eq_getElem (by simpa using hlt), Array.getElem_modify_self, hg']
      rfl
    · rw [Array.toList_setIfInBounds, ← ht, List.take_set]

def mItem (x : It) : Prop := Four x.1 ∧ 0 ≤ x.2.1 ∧ x.2.1 ≤ x.2.2 ∧ 1 ≤ x.2.2 ∧ x.2.2 ≤ 3
def mRule (r : Rl) : Prop := Four r.1 ∧ r.2.length ≤ 4 ∧ ∀ x, x ∈ r.2 → mItem x
def mProt (p : Pr) : Prop := p.length ≤ 8 ∧ ∀ r, r ∈ p → mRule r
theorem mItem.it {x : It} (h : mItem x) : itB x = true := by
  obtain ⟨⟨a, b⟩, c, d, e, f⟩ := h
  simp only [itB, opB, Bool.and_eq_true, decide_eq_true_eq]; omega
theorem mRule.rule {r : Rl} (h : mRule r) : ruleB r = true := by
  obtain ⟨⟨a, b⟩, c, d⟩ := h
  simp only [ruleB, opB, Bool.and_eq_true, decide_eq_true_eq, List.all_eq_true]
  exact ⟨⟨by omega, by omega⟩, fun x hx => (d x hx).it⟩
theorem mProt.valid {p : Pr} (h : mProt p) : validB p = true := by
  obtain ⟨a, b⟩ := h
  simp only [validB, Bool.and_eq_true, decide_eq_true_eq, List.all_eq_true]
  exact ⟨by omega, fun r hr => (b r hr).rule⟩
theorem mProt.ops {p : Pr} (h : mProt p) : Ops4 p := fun r hr x hx => ((h.2 r hr).2.2 x hx).1

structure MS (w0 : World) (b : Nat) (rs : List RV) (v : Value) (W : World) : Prop where
  pb : W.heap[b]? = some (.cells #[v] 24 (0, 0))
  row : W.ownsRow (b + 1) 55 2 v rs.length (rvCells rs)
  its : ItsOwn (b + 1) rs W
  apart : ∀ init q, rs = init ++ [q] → ∀ r, r ∈ init → ∀ g, r.2.ownBlock = some g → q.2.ownBlock ≠ some g
  low : Below b w0 W
  good : mProt (rs.map (·.1))

theorem MS.below {w0 W W' : World} {b : Nat} {rs : List RV} {v : Value} (h : MS w0 b rs v W) (hb : Below W.heap.size W W') : MS w0 b rs v W' :=
  ⟨(hb.block b (heap_lt h.pb)).trans h.pb, own_bel h.row hb, fun q hq => own_bel (h.its q hq) hb, h.apart, h.low.trans (hb.mono (Nat.le_of_lt (heap_lt h.pb))), h.good⟩
theorem MS.rules {w0 W : World} {b : Nat} {rs : List RV} {v : Value} (h : MS w0 b rs v W) : Rules W v (rs.map (·.1)) := rules_own h.row h.its
theorem ownBlock_nil : (Value.slice none 0 0).ownBlock = none := rfl
theorem grown_kept {W W' : World} {B e z n : Nat} {v : Value} {xs : List Value} {g : Option Nat} (h : W.ownsRow B e z v n xs) (hg : W.grownBy W' g) (hne : ∀ j, v.ownBlock = some j → some j ≠ g) : W'.ownsRow B e z v n xs :=
  h.kept hg (by
    cases hv : v.ownBlock with
    | none => exact .inl rfl
    | some j => exact .inr (by simpa using hne j hv))

theorem MS.addRule {w0 W W2 : World} {b : Nat} {rs : List RV} {v v' : Value} {op : Int} (h : MS w0 b rs v W) (hb0 : w0.heap.size = b) (h8 : rs.length < 8) (ho : Four op)
    (hown : W2.ownsRow (b + 1) 55 2 v' (rs.length + 1) (rvCells rs ++ [.int .i64 op, .slice none 0 0])) (hg : W.grownBy W2 v.ownBlock) :
    MS w0 b (rs ++ [((op, []), .slice none 0 0)]) v' (W2.setCell ⟨b, 0, none⟩ v') := by
  have hbl := heap_lt h.pb
  have hvb : v.ownBlock ≠ some b := fun e => by have := (h.row.lt b e).1; omega
  have hb2 : W2.heap[b]? = some (.cells #[v] 24 (0, 0)) := (hg.block b hbl (fun e => hvb e.symm)).trans h.pb
  have hset : W2.grownBy (W2.setCell ⟨b, 0, none⟩ v') (some b) := grown_set (grownBel (Below.refl _ _) _) _ _
  have key : ∀ {e z n : Nat} {u : Value} {xs : List Value}, W2.ownsRow (b + 1) e z u n xs → (W2.setCell ⟨b, 0, none⟩ v').ownsRow (b + 1) e z u n xs := fun ho => grown_kept ho hset fun j hj => by
    have := (ho.lt j hj).1; simp; omega
  refine ⟨one_setCell hb2, ?_, ?_, ?_, ?_, ?_⟩
  · rw [List.length_append, List.length_singleton, rvCells_snoc]; exact key hown
  · intro q hq
    rcases List.mem_append.1 hq with hq | hq
    · exact key (grown_kept (h.its q hq) hg fun j hj => own_types (h.its q hq) h.row (by decide) j hj)
    · obtain rfl : q = ((op, []), .slice none 0 0) := by simpa using hq
      exact World.ownsRow_nil _ _ _ _
  · intro init q e r hr g hgr
    obtain ⟨rfl, rfl⟩ := List.append_inj' e rfl |>.imp id (fun e => by simpa using e)
    rw [ownBlock_nil]; simp
  · refine (h.low.grown hg (by rw [← hb0]; exact h.low.size) fun k hk => by have := (h.row.lt k hk).1; omega).trans ?_
    exact (Below.refl _ _).setCell (p := ⟨b, 0, none⟩) (Nat.le_refl _) _
  · obtain ⟨g1, g2⟩ := h.good
    refine ⟨by simp; omega, fun r hr => ?_⟩
    rw [List.map_append] at hr
    rcases List.mem_append.1 hr with hr | hr
    · exact g2 r hr
    · obtain rfl : r = (op, []) := by simpa using hr
      exact ⟨ho, by simp, fun x hx => by simp at hx⟩

theorem rvCells_len (rs : List RV) : (rvCells rs).length = rs.length * 2 := by
  induction rs with
  | nil => rfl
  | cons a rs ih =>
    have : rvCells (a :: rs) = .int .i64 a.1.1 :: a.2 :: rvCells rs := rfl
    rw [this, List.length_cons, List.length_cons, ih, List.length_cons]; omega
theorem rvCells_put (init : List RV) (q : RV) (x : List It) (iv : Value) : (rvCells (init ++ [q])).set (init.length * 2 + 1) iv = rvCells (init ++ [((q.1.1, x), iv)]) := by
  rw [rvCells_snoc, rvCells_snoc, List.set_append_right _ _ (by rw [rvCells_len]; omega), rvCells_len, show init.length * 2 + 1 - init.length * 2 = 1 by omega]
  rfl

theorem MS.addItem {w0 W W2 : World} {b g cap : Nat} {init : List RV} {q : RV} {iv' : Value} {x : It} (h : MS w0 b (init ++ [q]) (.slice (some ⟨g, 0, none⟩) (init.length + 1) cap) W) (hb0 : w0.heap.size = b) (h4 : q.1.2.length < 4) (hx : mItem x)
    (hown : W2.ownsRow (b + 1) 59 3 iv' (q.1.2.length + 1) (itCells q.1.2 ++ [.int .i64 x.1, .int .i64 x.2.1, .int .i64 x.2.2])) (hg : W.grownBy W2 q.2.ownBlock)
    (hat : iv'.ownBlock = q.2.ownBlock ∨ iv'.ownBlock = some W.heap.size) :
    MS w0 b (init ++ [((q.1.1, q.1.2 ++ [x]), iv')]) (.slice (some ⟨g, 0, none⟩) (init.length + 1) cap) (W2.setCell ⟨g, init.length * 2 + 1, none⟩ iv') := by
  have hlen : (init ++ [q]).length = init.length + 1 := by simp
  have hrow := h.row
  rw [hlen] at hrow
  have hbl := heap_lt h.pb
  have hq := h.its q (by simp)
  have hqg : ∀ j, q.2.ownBlock = some j → b + 1 ≤ j ∧ j < W.heap.size := fun j e => hq.lt j e
  have hvq : ∀ j, (Value.slice (some ⟨g, 0, none⟩) (init.length + 1) cap).ownBlock = some j → some j ≠ q.2.ownBlock := own_types hrow hq (by decide)
  have hrow2 : W2.ownsRow (b + 1) 55 2 (.slice (some ⟨g, 0, none⟩) (init.length + 1) cap) (init.length + 1) (rvCells (init ++ [q])) := grown_kept hrow hg hvq
  have hset : W2.grownBy (W2.setCell ⟨g, init.length * 2 + 1, none⟩ iv') (some g) := grown_set (grownBel (Below.refl _ _) _) _ _
  have hgb : b + 1 ≤ g := (hrow.lt g rfl).1
  have hitx : itCells q.1.2 ++ [.int .i64 x.1, .int .i64 x.2.1, .int .i64 x.2.2] = itCells (q.1.2 ++ [x]) := (itCells_snoc _ _).symm
  rw [hitx] at hown
  refine ⟨?_, ?_, ?_, ?_, ?_, ?_⟩
  · refine (hset.block b ?_ (by simp; omega)).trans ((hg.block b hbl fun e => ?_).trans h.pb)
    · have := hg.size; omega
    · have := (hqg b e.symm).1; omega
  · have := own_set hrow2 (init.length * 2 + 1) iv' (by rw [rvCells_len]; simp; omega)
    rw [rvCells_put init q (q.1.2 ++ [x])] at this
    simpa using this
  · intro r hr
    rcases List.mem_append.1 hr with hr | hr
    · have h1 := h.its r (List.mem_append.2 (.inl hr))
      refine grown_kept (grown_kept h1 hg fun j hj e => h.apart init q rfl r hr j hj e.symm) hset fun j hj => ?_
      have := own_types h1 hrow (by decide) j hj
      simpa [Value.ownBlock] using this
    · obtain rfl : r = ((q.1.1, q.1.2 ++ [x]), iv') := by simpa using hr
      refine grown_kept (n := (q.1.2 ++ [x]).length) (by simpa using hown) hset fun j hj => ?_
      have := own_types hown hrow2 (by decide) j hj
      simpa [Value.ownBlock] using this
  · intro init2 q2 e r hr j hj
    obtain ⟨rfl, rfl⟩ : init = init2 ∧ ((q.1.1, q.1.2 ++ [x]), iv') = q2 := List.append_inj' e rfl |>.imp id (fun e => by simpa using e)
    rcases hat with hat | hat
    · rw [hat]; exact h.apart init q rfl r hr j hj
    · rw [hat]
      have := ((h.its r (List.mem_append.2 (.inl hr))).lt j hj).2
      simp; omega
  · refine (h.low.grown hg (by rw [← hb0]; exact h.low.size) fun k hk => by have := (hqg k hk).1; omega).trans ?_
    exact (Below.refl _ _).setCell (p := ⟨g, init.length * 2 + 1, none⟩) (by simp; omega) _
  · obtain ⟨g1, g2⟩ := h.good
    refine ⟨by simpa using g1, fun r hr => ?_⟩
    rw [List.map_append] at hr
    rcases List.mem_append.1 hr with hr | hr
    · exact g2 r (by rw [List.map_append]; exact List.mem_append.2 (.inl hr))
    · obtain rfl : r = (q.1.1, q.1.2 ++ [x]) := by simpa using hr
      obtain ⟨q1, q2, q3⟩ := g2 q.1 (by simp)
      refine ⟨q1, by simp; omega, fun y hy => ?_⟩
      rcases List.mem_append.1 hy with hy | hy
      · exact q3 y hy
      · rw [List.mem_singleton.1 hy]; exact hx
end Go.Proofs.YteilaajjpjhijaaDoor
