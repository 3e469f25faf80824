/- Rules grouped by their operation: a map of slices that a call owns. -/
import Derived.Test.YteilaajjpjhijaaDoorMv
import Derived.Laws.OwnMore
namespace Go.Proofs.YteilaajjpjhijaaDoor
open Go.RowKit PSpec

theorem lkV_nil (b : Int) : lkV [] b = none := rfl
theorem lkV_cons (p : Int × Value) (L : MV) (b : Int) : lkV (p :: L) b = if p.1 = b then some p.2 else lkV L b := by
  unfold lkV
  by_cases h : p.1 = b
  · simp [h]
  · simp [h]
theorem upV_cons (p : Int × Value) (L : MV) (a : Int) (m : Value) : upV (p :: L) a m = if p.1 = a then (a, m) :: L else p :: upV L a m := by
  unfold upV
  rw [List.findIdx?_cons]
  by_cases h : p.1 = a
  · simp [h]
  · simp only [beq_iff_eq, h, if_false]
    cases hf : L.findIdx? fun p => p.1 == a with
    | none => simp
    | some j => simp
theorem lkV_up (L : MV) (a b : Int) (m : Value) : lkV (upV L a m) b = if b = a then some m else lkV L b := by
  induction L with
  | nil =>
    have : upV [] a m = [(a, m)] := rfl
    rw [this, lkV_cons]
    by_cases h : b = a
    · rw [if_pos h, if_pos h.symm]
    · rw [if_neg h, if_neg (Ne.symm h)]
  | cons p L ih =>
    rw [upV_cons]
    by_cases h : p.1 = a
    · rw [if_pos h, lkV_cons, lkV_cons]
      by_cases hb : b = a
      · rw [if_pos hb, if_pos hb.symm]
      · rw [if_neg hb, if_neg (Ne.symm hb), if_neg (by rw [h]; exact Ne.symm hb)]
    · rw [if_neg h, lkV_cons, lkV_cons, ih]
      by_cases hb : b = a
      · rw [if_pos hb, if_pos hb, if_neg (by rw [hb]; exact h)]
      · rw [if_neg hb, if_neg hb]
def valV (L : MV) (k : Int) : Value := (lkV L k).getD (.slice none 0 0)
theorem valV_up (L : MV) (a b : Int) (m : Value) : valV (upV L a m) b = if b = a then m else valV L b := by
  unfold valV
  rw [lkV_up]
  by_cases h : b = a
  · rw [if_pos h, if_pos h]; rfl
  · rw [if_neg h, if_neg h]

abbrev RV := Rl × Value
def ofOp (k : Int) (rs : List RV) : List RV := rs.filter fun q => decide (q.1.1 = k)
def rvCells (rs : List RV) : List Value := rs.flatMap fun q => [.int .i64 q.1.1, q.2]
theorem rvCells_snoc (rs : List RV) (q : RV) : rvCells (rs ++ [q]) = rvCells rs ++ [.int .i64 q.1.1, q.2] := by simp [rvCells]
theorem ofOp_snoc (k : Int) (rs : List RV) (q : RV) : ofOp k (rs ++ [q]) = ofOp k rs ++ if q.1.1 = k then [q] else [] := by
  unfold ofOp
  rw [List.filter_append]
  by_cases h : q.1.1 = k <;> simp [h]
theorem rvCells_get (rs : List RV) (i : Nat) (q : RV) (h : rs[i]? = some q) : (rvCells rs)[2 * i]? = some (.int .i64 q.1.1) ∧ (rvCells rs)[2 * i + 1]? = some q.2 := by
  induction rs generalizing i with
  | nil => simp at h
  | cons a rs ih =>
    cases i with
    | zero =>
      obtain rfl : a = q := by simpa using h
      exact ⟨rfl, rfl⟩
    | succ i =>
      have := ih i (by simpa using h)
      have e : rvCells (a :: rs) = .int .i64 a.1.1 :: a.2 :: rvCells rs := rfl
      rw [e, show 2 * (i + 1) = 2 * i + 1 + 1 by omega, show 2 * i + 1 + 1 + 1 = (2 * i + 1) + 1 + 1 by omega]
      simpa using this

structure Grp (B b : Nat) (L : MV) (rs : List RV) (W : World) : Prop where
  map : W.heap[b]? = some (mapV L)
  own : ∀ k, W.ownsRow B 55 2 (valV L k) (ofOp k rs).length (rvCells (ofOp k rs))
  sep : ∀ k k', k ≠ k' → (valV L k).ownBlock = none ∨ (valV L k).ownBlock ≠ (valV L k').ownBlock
  low : b < B

theorem grown_self (W : World) (row : Option Nat) : W.grownBy W row := ⟨rfl, rfl, rfl, Nat.le_refl _, fun _ _ _ => rfl⟩
theorem grown_of_below {W W' : World} (h : Below W.heap.size W W') (row : Option Nat) : W.grownBy W' row := ⟨h.os, h.tape, h.output, h.size, fun k hk _ => h.block k hk⟩
theorem Grp.below {B b : Nat} {L : MV} {rs : List RV} {W W' : World} (h : Grp B b L rs W) (hb : Below W.heap.size W W') : Grp B b L rs W' :=
  ⟨(hb.block b (lt_of_heap h.map)).trans h.map, fun k => (h.own k).kept (grown_of_below hb none) (by
    cases hv : (valV L k).ownBlock with
    | none => exact .inl rfl
    | some g => exact .inr (by simp)), h.sep, h.low⟩
theorem Grp.start {w : World} {B b : Nat} (hb : w.heap[b]? = some (mapV [])) (hl : b < B) : Grp B b [] [] w :=
  ⟨hb, fun _ => World.ownsRow_nil _ _ _ _, fun _ _ _ => .inl rfl, hl⟩
/-- a rule comes in -/
theorem Grp.put {B b : Nat} {L : MV} {rs : List RV} {W W' : World} {q : RV} (h : Grp B b L rs W) (v' : Value) (hown : W'.ownsRow B 55 2 v' ((ofOp q.1.1 rs).length + 1) (rvCells (ofOp q.1.1 rs) ++ [.int .i64 q.1.1, q.2]))
    (hg : W.grownBy W' (valV L q.1.1).ownBlock) (hat : v'.ownBlock = (valV L q.1.1).ownBlock ∨ v'.ownBlock = some W.heap.size) : Grp B b (upV L q.1.1 v') (rs ++ [q]) (W'.putObj b (mapV (upV L q.1.1 v'))) := by
  have hbW : b < W.heap.size := lt_of_heap h.map
  have hsz : b < W'.heap.size := Nat.lt_of_lt_of_le hbW hg.size
  have hne : ∀ (v : Value) (n : Nat) (xs : List Value), W'.ownsRow B 55 2 v n xs → (W'.putObj b (mapV (upV L q.1.1 v'))).ownsRow B 55 2 v n xs := fun v n xs ho =>
    ho.kept (grown_put (b := b) (grown_self W' (some b)) _) (by
      cases hv : v.ownBlock with
      | none => exact .inl rfl
      | some g => exact .inr (by have := (ho.lt g hv).1; have := h.low; simp; omega))
  refine ⟨World.putObj_heap_same hsz, fun k => ?_, fun k k' hk => ?_, h.low⟩
  · rw [valV_up, ofOp_snoc]
    by_cases e : k = q.1.1
    · subst e
      rw [if_pos rfl, if_pos rfl, rvCells_snoc, List.length_append]
      exact hne _ _ _ hown
    · rw [if_neg e, if_neg (Ne.symm e), List.append_nil]
      exact hne _ _ _ ((h.own k).kept hg (h.sep k q.1.1 e))
  · rw [valV_up, valV_up]
    have lt : ∀ k g, (valV L k).ownBlock = some g → g < W.heap.size := fun k g hg => ((h.own k).lt g hg).2
    by_cases e : k = q.1.1
    · rw [if_pos e, if_neg (by omega)]
      rcases hat with hat | hat
      · rw [hat, ← e]; exact h.sep k k' hk
      · rw [hat]
        refine .inr fun he => ?_
        have := lt k' _ he.symm
        omega
    · rw [if_neg e]
      by_cases e' : k' = q.1.1
      · rw [if_pos e']
        rcases hat with hat | hat
        · rw [hat, ← e']; exact h.sep k k' hk
        · rw [hat]
          refine .inr fun he => ?_
          have := lt k _ he
          omega
      · rw [if_neg e']; exact h.sep k k' hk

/-- the rules with the values of their items -/
def RVs (w : World) (b o : Nat) (rs : List RV) : Prop := ∀ i q, rs[i]? = some q → w.cell? ⟨b, o + i * 2, none⟩ = some (.int .i64 q.1.1) ∧ w.cell? ⟨b, o + i * 2 + 1, none⟩ = some q.2 ∧ Items w q.2 q.1.2
theorem rvs_of {w : World} {b : Nat} : ∀ (p : Pr) (o : Nat), (∀ i r, p[i]? = some r → Cells2 w b (o + i * 2) r) → ∃ rs : List RV, rs.map (·.1) = p ∧ RVs w b o rs := by
  intro p
  induction p with
  | nil => exact fun o _ => ⟨[], rfl, fun i q h => (by simp at h)⟩
  | cons r p ih =>
    intro o h
    obtain ⟨h1, iv, h2, h3⟩ := h 0 r rfl
    obtain ⟨rs, hm, hr⟩ := ih (o + 2) fun i r' hi => by
      have := h (i + 1) r' (by simpa using hi)
      rw [show o + (i + 1) * 2 = o + 2 + i * 2 by omega] at this
      exact this
    refine ⟨(r, iv) :: rs, by simp [hm], fun i q hq => ?_⟩
    cases i with
    | zero =>
      obtain rfl : (r, iv) = q := by simpa using hq
      simp only [Nat.zero_mul, Nat.add_zero] at h1 h2 ⊢
      exact ⟨h1, h2, h3⟩
    | succ i =>
      have := hr i q (by simpa using hq)
      rw [show o + (i + 1) * 2 = o + 2 + i * 2 by omega]
      exact this

theorem part55 : ∃ i0, Hid (Tryd.prog.info? 55 = some i0 ∧ i0.zero = some (.agg #[.int .i64 0, .slice none 0 0]) ∧ i0.size = 2 ∧ i0.bytes = 32) := by
  obtain ⟨i0, hi, hz0, hz1, hz2⟩ := info_parts (P := Tryd.prog) (e := 55) (z := .agg #[.int .i64 0, .slice none 0 0]) (size := 2) (bytes := 32) (by kernel_rfl)
  exact ⟨i0, hi, hz0, hz1, hz2⟩
theorem part66 : ∃ i0, Hid (Tryd.prog.info? 66 = some i0 ∧ i0.zero = some (.agg (arrC fun _ => 0)) ∧ i0.size = 12 ∧ i0.bytes = 96) := by
  obtain ⟨i0, hi, hz0, hz1, hz2⟩ := info_parts (P := Tryd.prog) (e := 66) (z := .agg (arrC fun _ => 0)) (size := 12) (bytes := 96) (by kernel_rfl)
  exact ⟨i0, hi, hz0, hz1, hz2⟩
end Go.Proofs.YteilaajjpjhijaaDoor
