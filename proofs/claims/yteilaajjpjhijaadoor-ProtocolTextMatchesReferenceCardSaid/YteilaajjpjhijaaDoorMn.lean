/- The least of what the rules of an operation leave missing, as counts and as lists. No walk. -/
import Derived.Test.YteilaajjpjhijaaDoorReg2
import Derived.Test.YteilaajjpjhijaaDoorPl
namespace Go.Proofs.YteilaajjpjhijaaDoor
open Go.RowKit PSpec

def foundOf (fl : List RV) (ch : List Int) : List (List Int) := fl.filterMap fun q => best (divs q.1.2 ch)
def cntCells (ms : List (List Int)) : List Value := ms.flatMap fun m => arrL (cntOf m)
theorem ofOp_len (k : Int) (rs : List RV) : (ofOp k rs).length ≤ rs.length := by unfold ofOp; exact List.length_filter_le _ _
theorem ofOp_rules (k : Int) (rs : List RV) : (ofOp k rs).map (·.1) = rulesOf (rs.map (·.1)) k := by
  unfold ofOp rulesOf
  rw [List.filter_map]; rfl
theorem cntCells_snoc (ms : List (List Int)) (m : List Int) : cntCells (ms ++ [m]) = cntCells ms ++ arrL (cntOf m) := by simp [cntCells]
theorem found_len (fl : List RV) (ch : List Int) : (foundOf fl ch).length ≤ fl.length := by unfold foundOf; exact List.length_filterMap_le _ _
theorem found_snoc (fl : List RV) (ch : List Int) (j : Nat) (q : RV) (h : fl[j]? = some q) : foundOf (fl.take (j + 1)) ch = foundOf (fl.take j) ch ++ (best (divs q.1.2 ch)).toList := by
  unfold foundOf
  rw [List.take_add_one, h, List.filterMap_append]
  cases hb : best (divs q.1.2 ch) <;> simp [hb]
theorem mem_found {fl : List RV} {ch m : List Int} : m ∈ foundOf fl ch ↔ ∃ q, q ∈ fl ∧ best (divs q.1.2 ch) = some m := by
  unfold foundOf; simp only [List.mem_filterMap]
theorem best_found (fl : List RV) (ch : List Int) : best (foundOf fl ch) = best (divsAll (fl.map (·.1)) ch) := by
  refine ((best_is (foundOf fl ch)).enough (D := (· ∈ divsAll (fl.map (·.1)) ch)) (fun y hy => ?_) (fun y hy => ?_)).uniq (best_is _)
  · obtain ⟨q, hq, hb⟩ := mem_found.1 hy
    unfold divsAll
    exact List.mem_flatMap.2 ⟨q.1, List.mem_map.2 ⟨q, hq, rfl⟩, (best_some hb).1⟩
  · unfold divsAll at hy
    obtain ⟨r, hr, hd⟩ := List.mem_flatMap.1 hy
    obtain ⟨q, hq, rfl⟩ := List.mem_map.1 hr
    obtain ⟨b, hb, hbef⟩ := best_ex hd
    exact ⟨b, mem_found.2 ⟨q, hq, hb⟩, hbef⟩

theorem listTo_asc (c : Nat → Int) (k : Nat) : (listTo c k).Pairwise (· ≤ ·) := by
  induction k with
  | zero => exact .nil
  | succ k ih =>
    rw [listTo_succ]
    refine List.pairwise_append.2 ⟨ih, List.pairwise_replicate.2 (.inr (by omega)), fun a ha b hb => ?_⟩
    have := listTo_mem c k a ha
    rw [(List.mem_replicate.1 hb).2]; omega
theorem listTo_count (c : Nat → Int) (k : Nat) (a : Int) : (listTo c k).count a = if 0 ≤ a ∧ a < k then (c a.toNat).toNat else 0 := by
  induction k with
  | zero => rw [if_neg (by omega)]; rfl
  | succ k ih =>
    rw [listTo_succ, List.count_append, ih, List.count_replicate]
    by_cases h : (k : Int) = a
    · subst h
      rw [if_neg (by omega), if_pos (by simp), if_pos (by omega)]
      simp
    · rw [if_neg (show ¬ (((k : Int) == a) = true) by simpa using h)]
      by_cases h2 : 0 ≤ a ∧ a < k
      · rw [if_pos h2, if_pos (by omega)]; rfl
      · rw [if_neg h2, if_neg (by omega)]
theorem listTo_cnt {n : Nat} {m : List Int} (h : Wf n m) : listTo (cntOf m) 12 = m := by
  refine asc_eq (listTo_asc _ _) h.asc (List.perm_iff_count.2 fun a => ?_)
  rw [listTo_count]
  by_cases ha : 0 ≤ a ∧ a < (12 : Nat)
  · rw [if_pos ha]
    unfold cntOf
    rw [show ((a.toNat : Nat) : Int) = a by omega]
    simp
  · rw [if_neg ha]
    symm
    refine List.count_eq_zero_of_not_mem fun hm => ha ?_
    have := opB_t (h.ops a hm)
    omega
theorem min_best {n : Nat} (ms : List (List Int)) (m0 : List Int) (h : ∀ m, m ∈ m0 :: ms → Wf n m) :
    ∃ m, best (m0 :: ms) = some m ∧ Wf n m ∧ minC (cntOf m0) (ms.map cntOf) = cntOf m := by
  have H : ∀ (ms : List (List Int)) (m0 : List Int), (∀ m, m ∈ m0 :: ms → Wf n m) → ∃ m, ms.foldl better (some m0) = some m ∧ Wf n m ∧ minC (cntOf m0) (ms.map cntOf) = cntOf m := by
    intro ms
    induction ms with
    | nil => exact fun m0 h => ⟨m0, rfl, h m0 (by simp), rfl⟩
    | cons x ms ih =>
      intro m0 h
      have hx := h x (by simp)
      have h0 := h m0 (by simp)
      have e : ∀ b, befB x m0 = b → better (some m0) x = (if b then some x else some m0) := by rintro b rfl; rfl
      by_cases hb : befB x m0 = true
      · obtain ⟨m, h1, h2, h3⟩ := ih x (fun y hy => by
          rcases List.mem_cons.1 hy with rfl | hy
          · exact hx
          · exact h y (by simp [hy]))
        refine ⟨m, ?_, h2, ?_⟩
        · rw [List.foldl_cons, e _ hb]; exact h1
        · rw [← h3]
          show minC (if cmpC (cntOf x) (cntOf m0) < 0 then cntOf x else cntOf m0) (ms.map cntOf) = _
          rw [if_pos ((cmpC_bef hx h0).2 hb)]
      · obtain ⟨m, h1, h2, h3⟩ := ih m0 (fun y hy => by
          rcases List.mem_cons.1 hy with rfl | hy
          · exact h0
          · exact h y (by simp [hy]))
        refine ⟨m, ?_, h2, ?_⟩
        · rw [List.foldl_cons, e false (by simpa using hb)]; exact h1
        · rw [← h3]
          show minC (if cmpC (cntOf x) (cntOf m0) < 0 then cntOf x else cntOf m0) (ms.map cntOf) = _
          rw [if_neg (fun h => hb ((cmpC_bef hx h0).1 h))]
  exact H ms m0 h
theorem cntCells_get (ms : List (List Int)) (i j : Nat) (m : List Int) (u : Value) (h : ms[i]? = some m) (hu : (arrL (cntOf m))[j]? = some u) : (cntCells ms)[i * 12 + j]? = some u := by
  have hj : j < 12 := by
    have := (List.getElem?_eq_some_iff.1 hu).1
    rwa [arrL_len] at this
  induction ms generalizing i with
  | nil => simp at h
  | cons x ms ih =>
    have e : cntCells (x :: ms) = arrL (cntOf x) ++ cntCells ms := rfl
    cases i with
    | zero =>
      obtain rfl : x = m := by simpa using h
      rw [e, Nat.zero_mul, Nat.zero_add, List.getElem?_append_left (by rw [arrL_len]; exact hj)]
      exact hu
    | succ i =>
      rw [e, List.getElem?_append_right (by rw [arrL_len]; omega), arrL_len, show (i + 1) * 12 + j - 12 = i * 12 + j by omega]
      exact ih i (by simpa using h)
theorem cnts_own {w : World} {base n : Nat} {v : Value} {ms : List (List Int)} (h : w.ownsRow base 66 12 v n (cntCells ms)) (hn : n = ms.length) : Cnts w v (ms.map cntOf) := by
  subst hn
  have h' := h
  rcases h.2 with ⟨rfl, h0⟩ | ⟨g, cap, cur, rfl, _, hg, hnc, hcm, hcs, ht⟩
  · have hms : ms = [] := List.length_eq_zero_iff.1 h0
    subst hms
    exact ⟨none, 0, rfl, Nat.le_refl _, by decide, fun h => absurd rfl h⟩
  · refine ⟨some ⟨g, 0, none⟩, cap, by rw [List.length_map], by rw [List.length_map]; exact hnc, hcm, fun _ => ⟨g, 0, rfl, fun i c hc j u hu => ?_⟩⟩
    have hcl := h'.cells (g := g) rfl
    rw [List.getElem?_map] at hc
    cases hm : ms[i]? with
    | none => rw [hm] at hc; simp at hc
    | some m =>
      rw [hm] at hc
      obtain rfl : cntOf m = c := by simpa using hc
      have := hcl _ _ (cntCells_get ms i j m u hm hu)
      rw [Addr.add_mid] at this
      rw [show 0 + i * 12 + j = 0 + (i * 12 + j) by omega]
      exact this
theorem found_wf {fl : List RV} {ch m : List Int} (hB : ∀ q, q ∈ fl → q.1.2.all itB = true ∧ q.1.2.length ≤ 6) (h : m ∈ foundOf fl ch) : Wf 54 m := by
  obtain ⟨q, hq, hb⟩ := mem_found.1 h
  have := divs_wf q.1.2 ch m (hB q hq).1 (best_some hb).1
  exact this.mono (by have := (hB q hq).2; omega)
end Go.Proofs.YteilaajjpjhijaaDoor
