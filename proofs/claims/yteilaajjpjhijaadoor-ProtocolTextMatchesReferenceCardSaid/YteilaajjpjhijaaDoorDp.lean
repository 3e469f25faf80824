/- Counts and ascending lists: what is missing as an array of counts, compared, added to; the table of a division as a list of places. -/
import Derived.Test.YteilaajjpjhijaaDoorMap
import Derived.Test.YteilaajjpjhijaaDoorW5
namespace Go.Proofs.YteilaajjpjhijaaDoor
open Go.RowKit PSpec

def cntOf (m : List Int) (i : Nat) : Int := (m.count (i : Int) : Int)
structure Wf (n : Nat) (m : List Int) : Prop where
  asc : m.Pairwise (· ≤ ·)
  ops : ∀ y, y ∈ m → opB y = true
  len : m.length ≤ n

theorem cnt_small {n : Nat} {m : List Int} (h : Wf n m) (hn : n ≤ 1000) : Small (cntOf m) := fun i => by
  unfold cntOf
  have := List.count_le_length (a := (i : Int)) (l := m)
  have := h.len
  omega
theorem cnt_cons (y : Int) (m : List Int) (i : Nat) : cntOf (y :: m) i = cntOf m i + if y = (i : Int) then 1 else 0 := by
  unfold cntOf
  rw [List.count_cons]
  by_cases h : y = (i : Int) <;> simp [h]
theorem cnt_nil (i : Nat) : cntOf [] i = 0 := by simp [cntOf]
theorem sumTo_congr (c d : Nat → Int) (k : Nat) (h : ∀ i, i < k → c i = d i) : sumTo c k = sumTo d k := by
  induction k with
  | zero => rfl
  | succ k ih => rw [sumTo_succ, sumTo_succ, ih (fun i hi => h i (by omega)), h k (by omega)]
theorem sumTo_one (c : Nat → Int) (j k : Nat) : sumTo (fun i => c i + if (j : Int) = (i : Int) then 1 else 0) k = sumTo c k + if j < k then 1 else 0 := by
  induction k with
  | zero => simp [sumTo]
  | succ k ih =>
    rw [sumTo_succ, ih, sumTo_succ]
    by_cases h1 : j = k
    · subst h1; simp; omega
    · have h2 : ¬ (j : Int) = (k : Int) := by omega
      rw [if_neg h2]
      by_cases h3 : j < k
      · rw [if_pos h3, if_pos (by omega)]; omega
      · rw [if_neg h3, if_neg (by omega)]; omega
theorem tot_cnt (m : List Int) (h : ∀ y, y ∈ m → opB y = true) : tot (cntOf m) = m.length := by
  induction m with
  | nil => unfold tot; rw [sumTo_congr (cntOf []) (fun _ => 0) 12 (fun i _ => cnt_nil i)]; decide
  | cons y m ih =>
    have hy := h y (by simp)
    simp only [opB, Bool.and_eq_true, decide_eq_true_eq] at hy
    obtain ⟨j, rfl⟩ := Int.eq_ofNat_of_zero_le hy.1
    unfold tot at ih ⊢
    rw [sumTo_congr _ (fun i => cntOf m i + if (j : Int) = (i : Int) then 1 else 0) 12 (fun i _ => cnt_cons _ _ _), sumTo_one, ih (fun z hz => h z (by simp [hz])), if_pos (by omega)]
    simp

theorem cmpI_add (a b k : Int) : cmpI (a + k) (b + k) = cmpI a b := by
  unfold cmpI
  by_cases h1 : a < b
  · rw [if_pos h1, if_pos (by omega)]
  · rw [if_neg h1, if_neg (by omega : ¬ a + k < b + k)]
    by_cases h2 : b < a
    · rw [if_pos h2, if_pos (by omega)]
    · rw [if_neg h2, if_neg (by omega)]
theorem cmpL_map_add (c d e : Nat → Int) (l : List Nat) : cmpL (l.map fun i => c i + e i) (l.map fun i => d i + e i) = cmpL (l.map c) (l.map d) := by
  induction l with
  | nil => rfl
  | cons a l ih => simp only [List.map_cons, cmpL, cmpI_add, ih]
theorem cL_get' (c : Nat → Int) (j : Nat) (h : j < 12) : (cL c)[j]? = some (c j) := by simp [cL, h]
theorem cL_take (c d : Nat → Int) (j : Nat) (h : ∀ i, i < j → c i = d i) : (cL c).take j = (cL d).take j := by
  unfold cL
  rw [← List.map_take, ← List.map_take]
  refine List.map_congr_left fun i hi => h i ?_
  rw [List.take_range] at hi
  have := List.mem_range.1 hi
  omega
theorem cnt_zero (m : List Int) (j : Nat) (h : ∀ y, y ∈ m → (j : Int) < y) : cntOf m j = 0 := by
  unfold cntOf
  rw [List.count_eq_zero_of_not_mem]
  · rfl
  · intro hm; have := h _ hm; omega

theorem cmp_lex (a b : List Int) (hl : a.length = b.length) (ha : a.Pairwise (· ≤ ·)) (hb : b.Pairwise (· ≤ ·)) (oa : ∀ y, y ∈ a → opB y = true) (ob : ∀ y, y ∈ b → opB y = true) :
    (cmpL (cL (cntOf b)) (cL (cntOf a)) < 0 ↔ lexB a b = true) := by
  induction a generalizing b with
  | nil =>
    obtain rfl : b = [] := List.length_eq_zero_iff.1 hl.symm
    rw [cmpL_self]; simp [lexB]
  | cons x a ih =>
    cases b with
    | nil => simp at hl
    | cons y b =>
      have hx := oa x (by simp)
      have hy := ob y (by simp)
      simp only [opB, Bool.and_eq_true, decide_eq_true_eq] at hx hy
      obtain ⟨i, rfl⟩ := Int.eq_ofNat_of_zero_le hx.1
      obtain ⟨j, rfl⟩ := Int.eq_ofNat_of_zero_le hy.1
      have ha' := List.pairwise_cons.1 ha
      have hb' := List.pairwise_cons.1 hb
      simp only [lexB]
      by_cases hij : i = j
      · subst hij
        rw [if_pos rfl]
        have e1 : cL (cntOf ((i : Int) :: b)) = (List.range 12).map fun k => cntOf b k + if (i : Int) = (k : Int) then 1 else 0 := List.map_congr_left fun k _ => cnt_cons _ _ _
        have e2 : cL (cntOf ((i : Int) :: a)) = (List.range 12).map fun k => cntOf a k + if (i : Int) = (k : Int) then 1 else 0 := List.map_congr_left fun k _ => cnt_cons _ _ _
        rw [e1, e2, cmpL_map_add]
        exact ih b (by simpa using hl) ha'.2 hb'.2 (fun z hz => oa z (by simp [hz])) (fun z hz => ob z (by simp [hz]))
      · rw [if_neg (by omega)]
        have low : ∀ (p q k : Nat) (l : List Int), k < p → (∀ z, z ∈ l → (p : Int) ≤ z) → cntOf ((p : Int) :: l) k = 0 := fun p q k l hk hz => cnt_zero _ _ fun z hzm => by
          rcases List.mem_cons.1 hzm with rfl | h
          · omega
          · have := hz z h; omega
        have own : ∀ (p : Nat) (l : List Int), 1 ≤ cntOf ((p : Int) :: l) p := fun p l => by
          rw [cnt_cons, if_pos rfl]; unfold cntOf; omega
        by_cases hlt : i < j
        · have h0 : cntOf ((j : Int) :: b) i = 0 := low j 0 i b hlt (fun z hz => hb'.1 z hz)
          have h1 := own i a
          have hne : cmpI (cntOf ((j : Int) :: b) i) (cntOf ((i : Int) :: a) i) = -1 := by unfold cmpI; rw [if_pos (by omega)]
          rw [cmpL_at i _ _ _ _ (cL_take _ _ i fun k hk => by rw [low j 0 k b (by omega) (fun z hz => hb'.1 z hz), low i 0 k a hk (fun z hz => ha'.1 z hz)]) (cL_get' _ i (by omega)) (cL_get' _ i (by omega)) (by rw [hne]; decide), hne]
          simp; omega
        · have h0 : cntOf ((i : Int) :: a) j = 0 := low i 0 j a (by omega) (fun z hz => ha'.1 z hz)
          have h1 := own j b
          have hne : cmpI (cntOf ((j : Int) :: b) j) (cntOf ((i : Int) :: a) j) = 1 := by unfold cmpI; rw [if_neg (by omega), if_pos (by omega)]
          rw [cmpL_at j _ _ _ _ (cL_take _ _ j fun k hk => by rw [low j 0 k b hk (fun z hz => hb'.1 z hz), low i 0 k a (by omega) (fun z hz => ha'.1 z hz)]) (cL_get' _ j (by omega)) (cL_get' _ j (by omega)) (by rw [hne]; decide), hne]
          simp; omega

theorem cmpC_bef {n k : Nat} {a b : List Int} (ha : Wf n a) (hb : Wf k b) : (cmpC (cntOf a) (cntOf b) < 0 ↔ befB a b = true) := by
  unfold cmpC befB
  rw [tot_cnt a ha.ops, tot_cnt b hb.ops]
  by_cases hl : a.length = b.length
  · rw [hl, if_neg (by rw [cmpI_self]; simp), if_pos rfl]
    exact cmp_lex a b hl ha.asc hb.asc ha.ops hb.ops
  · rw [if_neg hl]
    unfold cmpI
    by_cases h : (a.length : Int) < b.length
    · rw [if_pos h]; simp; omega
    · rw [if_neg h, if_pos (by omega)]; simp; omega

theorem arrC_congr (c d : Nat → Int) (h : ∀ i, i < 12 → c i = d i) : arrC c = arrC d := by
  unfold arrC arrL
  congr 1
  exact List.map_congr_left fun i hi => by rw [h i (List.mem_range.1 hi)]
theorem arrC_set (c : Nat → Int) (j : Nat) (z : Int) (hj : j < 12) : (arrC c).setIfInBounds j (.int .i64 z) = arrC fun i => if i = j then z else c i := by
  apply Array.ext_getElem?
  intro i
  by_cases hi : i < 12
  · rw [arrC_get _ i hi]
    by_cases e : j = i
    · subst e; simp [arrC_size, hj]
    · rw [Array.getElem?_setIfInBounds_ne e, arrC_get _ i hi, if_neg (fun h => e h.symm)]
  · rw [Array.getElem?_eq_none (by simp [arrC_size]; omega), Array.getElem?_eq_none (by simp [arrC_size]; omega)]

theorem cnt_insN (x : Int) (k : Nat) (m : List Int) (i : Nat) : cntOf (insN x k m) i = cntOf m i + if x = (i : Int) then (k : Int) else 0 := by
  unfold cntOf insN
  rw [List.count_append, List.count_append, List.count_replicate]
  have h : m.count (i : Int) = (m.takeWhile fun y => decide (y ≤ x)).count (i : Int) + (m.dropWhile fun y => decide (y ≤ x)).count (i : Int) := by
    rw [← List.count_append, List.takeWhile_append_dropWhile]
  by_cases e : x = (i : Int)
  · subst e; simp; omega
  · have e' : ¬ (x == (i : Int)) = true := by simpa using e
    rw [if_neg e, if_neg e']; omega

theorem tw_all {α : Type} (p : α → Bool) (l : List α) : ∀ y, y ∈ l.takeWhile p → p y = true := by
  induction l with
  | nil => intro y h; simp at h
  | cons a l ih =>
    intro y h
    rw [List.takeWhile_cons] at h
    cases hp : p a with
    | false => simp [hp] at h
    | true =>
      rw [hp] at h
      simp only [if_true, List.mem_cons] at h
      rcases h with rfl | h
      · exact hp
      · exact ih y h
theorem dw_gt (x : Int) (l : List Int) (h : l.Pairwise (· ≤ ·)) : ∀ y, y ∈ l.dropWhile (fun y => decide (y ≤ x)) → x < y := by
  induction l with
  | nil => intro y h; simp at h
  | cons a l ih =>
    intro y hy
    obtain ⟨h1, h2⟩ := List.pairwise_cons.1 h
    rw [List.dropWhile_cons] at hy
    by_cases hp : a ≤ x
    · simp only [hp, decide_true, if_true] at hy
      exact ih h2 y hy
    · simp only [hp, decide_false, Bool.false_eq_true, if_false, List.mem_cons] at hy
      rcases hy with rfl | hy
      · omega
      · have := h1 y hy; omega
theorem insN_len (x : Int) (k : Nat) (m : List Int) : (insN x k m).length = m.length + k := by
  unfold insN
  have : m.length = (m.takeWhile fun y => decide (y ≤ x)).length + (m.dropWhile fun y => decide (y ≤ x)).length := by
    rw [← List.length_append, List.takeWhile_append_dropWhile]
  simp only [List.length_append, List.length_replicate]; omega
theorem insN_mem (x : Int) (k : Nat) (m : List Int) (y : Int) (h : y ∈ insN x k m) : y = x ∨ y ∈ m := by
  unfold insN at h
  simp only [List.mem_append, List.mem_replicate] at h
  rcases h with (h | h) | h
  · exact .inr (List.takeWhile_sublist _ |>.mem h)
  · exact .inl h.2
  · exact .inr (List.dropWhile_sublist _ |>.mem h)
theorem insN_asc (x : Int) (k : Nat) (m : List Int) (h : m.Pairwise (· ≤ ·)) : (insN x k m).Pairwise (· ≤ ·) := by
  unfold insN
  have h1 : ∀ y, y ∈ m.takeWhile (fun y => decide (y ≤ x)) → y ≤ x := fun y hy => by simpa using tw_all _ _ y hy
  have h2 := dw_gt x m h
  rw [List.pairwise_append, List.pairwise_append]
  refine ⟨⟨h.sublist (List.takeWhile_sublist _), List.pairwise_replicate.2 (.inr (Int.le_refl x)), fun a ha b hb => ?_⟩, h.sublist (List.dropWhile_sublist _), fun a ha b hb => ?_⟩
  · rw [(List.mem_replicate.1 hb).2]; exact h1 a ha
  · have hb := h2 b hb
    rcases List.mem_append.1 ha with ha | ha
    · have := h1 a ha; omega
    · rw [(List.mem_replicate.1 ha).2]; omega
theorem wf_insN {n : Nat} {m : List Int} (x : Int) (k : Nat) (h : Wf n m) (hx : opB x = true) : Wf (n + k) (insN x k m) :=
  ⟨insN_asc x k m h.asc, fun y hy => (insN_mem x k m y hy).elim (fun e => by rw [e]; exact hx) (fun h1 => h.ops y h1), by rw [insN_len]; have := h.len; omega⟩
theorem Wf.mono {n k : Nat} {m : List Int} (h : Wf n m) (hk : n ≤ k) : Wf k m := ⟨h.asc, h.ops, Nat.le_trans h.len hk⟩

/-- the table: places and what is missing up to them -/
abbrev LMt := List (Nat × List Int)
def cm (L : LMt) : ML := L.map fun p => ((p.1 : Int), cntOf p.2)
def lkM (L : LMt) (a : Nat) : Option (List Int) := (L.find? fun p => p.1 == a).map (·.2)
def upM (L : LMt) (a : Nat) (m : List Int) : LMt :=
  match L.findIdx? fun p => p.1 == a with
  | some j => L.set j (a, m)
  | none => L ++ [(a, m)]
def relax (L : LMt) (a : Nat) (m : List Int) : LMt :=
  match lkM L a with
  | none => upM L a m
  | some m0 => if befB m m0 then upM L a m else L
def inner (x : It) (a : Nat) (m : List Int) (T : Nat) (L : LMt) : LMt := (List.range T).foldl (fun L t => relax L (a + t) (insN x.1 (x.2.1 - t).toNat m)) L
def entryStep (x : It) (ch : List Int) (LM L : LMt) (i : Nat) : LMt :=
  match LM[i]? with
  | some p => inner x p.1 p.2 (maxT x (ch.drop p.1) + 1) L
  | none => L
def midL (x : It) (ch : List Int) (LM : LMt) (pr : List Nat) : LMt := pr.foldl (entryStep x ch LM) []

theorem cm_len (L : LMt) : (cm L).length = L.length := by simp [cm]
theorem cm_get (L : LMt) (i : Nat) : (cm L)[i]? = (L[i]?).map fun p => ((p.1 : Int), cntOf p.2) := by simp [cm]
theorem cast_beq (a b : Nat) : ((a : Int) == (b : Int)) = (a == b) := by
  rw [Bool.eq_iff_iff]; simp; omega
theorem lk_cm (L : LMt) (a : Nat) : lk (cm L) (a : Int) = (lkM L a).map cntOf := by
  unfold lk lkM cm
  rw [List.find?_map]
  simp only [Option.map_map]
  have : (fun p : Int × (Nat → Int) => p.1 == (a : Int)) ∘ (fun p : Nat × List Int => ((p.1 : Int), cntOf p.2)) = fun p => p.1 == a := by
    funext p; simp [Function.comp, cast_beq]
  rw [this]
  rfl
theorem up_cm (L : LMt) (a : Nat) (m : List Int) : up (cm L) (a : Int) (cntOf m) = cm (upM L a m) := by
  have h : (cm L).findIdx? (fun p => p.1 == (a : Int)) = L.findIdx? fun p => p.1 == a := by
    unfold cm
    rw [List.findIdx?_map]
    have : (fun p : Int × (Nat → Int) => p.1 == (a : Int)) ∘ (fun p : Nat × List Int => ((p.1 : Int), cntOf p.2)) = fun p => p.1 == a := by
      funext p; simp [Function.comp, cast_beq]
    rw [this]
  unfold up upM
  rw [h]
  cases L.findIdx? fun p => p.1 == a with
  | none => simp [cm]
  | some j => simp [cm, List.map_set]
theorem inner_succ (x : It) (a : Nat) (m : List Int) (T : Nat) (L : LMt) : inner x a m (T + 1) L = relax (inner x a m T L) (a + T) (insN x.1 (x.2.1 - T).toNat m) := by
  simp [inner, List.range_succ]

/-- all that stands in the table is an ascending list, and its place is one of the children's -/
def GoodM (n len : Nat) (L : LMt) : Prop := ∀ p, p ∈ L → Wf n p.2 ∧ p.1 ≤ len
theorem good_upM {n len a : Nat} {m : List Int} {L : LMt} (h : GoodM n len L) (hm : Wf n m) (ha : a ≤ len) : GoodM n len (upM L a m) := by
  intro p hp
  unfold upM at hp
  split at hp
  · rcases List.mem_or_eq_of_mem_set hp with hp | rfl
    · exact h p hp
    · exact ⟨hm, ha⟩
  · rcases List.mem_append.1 hp with hp | hp
    · exact h p hp
    · obtain rfl : p = (a, m) := by simpa using hp
      exact ⟨hm, ha⟩
theorem good_relax {n len a : Nat} {m : List Int} {L : LMt} (h : GoodM n len L) (hm : Wf n m) (ha : a ≤ len) : GoodM n len (relax L a m) := by
  unfold relax
  split
  · exact good_upM h hm ha
  · split
    · exact good_upM h hm ha
    · exact h
theorem lkM_mem {L : LMt} {a : Nat} {m : List Int} (h : lkM L a = some m) : (a, m) ∈ L := by
  unfold lkM at h
  obtain ⟨p, hp, rfl⟩ := Option.map_eq_some_iff.1 h
  have h1 := List.find?_some hp
  have h2 := List.mem_of_find?_eq_some hp
  have : p.1 = a := by simpa using h1
  subst this
  exact h2
theorem maxT_len (x : It) (ch : List Int) : maxT x ch ≤ ch.length := by
  unfold maxT
  exact Nat.le_trans (List.takeWhile_sublist _).length_le (by simp; omega)

end Go.Proofs.YteilaajjpjhijaaDoor
