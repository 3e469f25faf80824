/- A map from integers to counts that a call makes: its block, what its operations do, a range over it. -/
import Derived.Test.YteilaajjpjhijaaDoorMid
import Derived.TacticsIn
namespace Go.Proofs.YteilaajjpjhijaaDoor
open Go.RowKit PSpec

abbrev ML := List (Int × (Nat → Int))
def mEnt (p : Int × (Nat → Int)) (i : Nat) : MapEntry := { key := .int .i64 p.1, val := .agg (arrC p.2), born := i }
def mEnts (L : ML) : List MapEntry := L.zipIdx.map fun q => mEnt q.1 q.2
def mapObj (L : ML) : Obj := .map (mEnts L).toArray L.length

def lk (L : ML) (k : Int) : Option (Nat → Int) := (L.find? fun p => p.1 == k).map (·.2)
def up (L : ML) (k : Int) (c : Nat → Int) : ML :=
  match L.findIdx? fun p => p.1 == k with
  | some j => L.set j (k, c)
  | none => L ++ [(k, c)]

theorem mEnts_len (L : ML) : (mEnts L).length = L.length := by simp [mEnts]
theorem mEnts_get (L : ML) (i : Nat) : (mEnts L)[i]? = (L[i]?).map fun p => mEnt p i := by
  unfold mEnts
  rw [List.getElem?_map, List.getElem?_zipIdx]
  cases L[i]? <;> simp

theorem zip_find (k : Int) : ∀ (L : ML) (s i : Nat), Instr.findNow (.int .i64) (.int .i64 k) (L.zipIdx s |>.map fun q => mEnt q.1 q.2) i =
    some ((L.findIdx? fun p => p.1 == k).map fun j => (i + j, .agg (arrC ((lk L k).getD fun _ => 0)))) := by
  intro L
  induction L with
  | nil => intro s i; rfl
  | cons p L ih =>
    intro s i
    simp only [List.zipIdx_cons, List.map_cons, Instr.findNow, mEnt, Instr.sameNow, if_true]
    by_cases h : p.1 = k
    · have h1 : (k == p.1) = true := by simp [h]
      have h2 : (p.1 == k) = true := by simp [h]
      simp [h1, h2, lk, List.findIdx?_cons]
    · have h1 : (k == p.1) = false := by simp; omega
      have h2 : (p.1 == k) = false := by simp; omega
      have := ih (s + 1) (i + 1)
      simp only [mEnt] at this
      simp only [h1, this]
      simp only [List.findIdx?_cons, h2, Bool.false_eq_true, if_false, Option.map_map]
      congr 2
      have e : lk (p :: L) k = lk L k := by simp [lk, h2]
      rw [e]
      funext j
      simp [Function.comp]; omega

theorem findNow_mEnts (L : ML) (k : Int) : Instr.findNow (.int .i64) (.int .i64 k) (mEnts L) 0 =
    some ((L.findIdx? fun p => p.1 == k).map fun j => (j, .agg (arrC ((lk L k).getD fun _ => 0)))) := by
  have := zip_find k L 0 0
  simpa [mEnts] using this

theorem lk_isSome (L : ML) (k : Int) : (lk L k).isSome = (L.findIdx? fun p => p.1 == k).isSome := by
  unfold lk
  rw [Bool.eq_iff_iff]
  simp

theorem run_findKey (L : ML) (k : Int) (w : World) : (Instr.findKey 3 (.int .i64 k) (mEnts L)).run Tryd.prog w =
    .ok ((L.findIdx? fun p => p.1 == k).map fun j => (j, .agg (arrC ((lk L k).getD fun _ => 0)))) w := by
  unfold Instr.findKey
  simp only [Sem.run_bind, run_underlying Tryd.underlying3, Result.andThen_ok, findNow_mEnts, Sem.run_pure]
theorem run_checkKey (b : Bool) (k : Int) (w : World) : (Instr.checkKey b 10000 3 (.int .i64 k)).run Tryd.prog w = .ok () w := by
  unfold Instr.checkKey
  simp [Sem.run_bind, run_underlying Tryd.underlying3]

theorem run_getMap {w : World} {b : Nat} {L : ML} (h : w.heap[b]? = some (mapObj L)) : (getObj b).run Tryd.prog w = .ok (mapObj L) w := by
  simp [getObj, Sem.run, h, mapObj]

theorem run_lookup {w : World} {b : Nat} {L : ML} (k : Int) (h : w.heap[b]? = some (mapObj L)) :
    (Instr.lookup 96 (.map (some b)) (.int .i64 k) true).run Tryd.prog w = .ok (.tuple #[.agg (arrC ((lk L k).getD fun _ => 0)), .bool (lk L k).isSome]) w := by
  unfold Instr.lookup
  simp only [Sem.run_bind, run_underlying Tryd.underlying96, Result.andThen_ok, run_getMap h, mapObj, Sem.run_pure, run_checkKey, run_findKey]
  rw [lk_isSome]
  cases hf : L.findIdx? fun p => p.1 == k with
  | some j => simp
  | none =>
    have : lk L k = none := by
      have := lk_isSome L k
      rw [hf] at this
      simpa using this
    simp only [Option.map_none, Sem.run_bind, Tryd.zeroValue66, Result.andThen_ok, Sem.run_pure, this, Option.getD_none]
    rfl

theorem mEnts_snoc (L : ML) (k : Int) (c : Nat → Int) : mEnts (L ++ [(k, c)]) = mEnts L ++ [mEnt (k, c) L.length] := by
  simp [mEnts, List.zipIdx_append]
theorem mEnts_set (L : ML) (j : Nat) (k : Int) (c : Nat → Int) : mEnts (L.set j (k, c)) = (mEnts L).set j (mEnt (k, c) j) := by
  apply List.ext_getElem?
  intro i
  rw [mEnts_get, List.getElem?_set, List.getElem?_set, mEnts_get, mEnts_len]
  by_cases h : j = i
  · subst h
    by_cases hl : j < L.length <;> simp [hl]
  · simp [h]

theorem run_mapUpdate {w : World} {b : Nat} {L : ML} (k : Int) (c : Nat → Int) (h : w.heap[b]? = some (mapObj L)) :
    (Instr.mapUpdate 96 (.map (some b)) (.int .i64 k) (.agg (arrC c))).run Tryd.prog w = .ok () (w.putObj b (mapObj (up L k c))) := by
  unfold Instr.mapUpdate
  simp only [Sem.run_bind, run_underlying Tryd.underlying96, Result.andThen_ok, run_getMap h, mapObj, run_checkKey, run_findKey]
  have hset : ∀ (es : Array MapEntry) (cl : Nat), (setObj b (.map es cl)).run Tryd.prog w = .ok () (w.putObj b (.map es cl)) := by
    intro es cl
    simp [setObj, Sem.run, h, mapObj, World.putObj]
  cases hf : L.findIdx? fun p => p.1 == k with
  | none =>
    simp only [Option.map_none, hset]
    unfold up
    rw [hf]
    simp only [mEnts_snoc, List.length_append, List.length_cons, List.length_nil, List.push_toArray]
    rfl
  | some j =>
    obtain ⟨hj, hp, _⟩ := List.findIdx?_eq_some_iff_getElem.1 hf
    have hk : L[j].1 = k := by simpa using hp
    have he : ((mEnts L).toArray)[j]? = some (mEnt L[j] j) := by
      rw [List.getElem?_toArray, mEnts_get, List.getElem?_eq_getElem hj]; rfl
    have hstay : (Instr.keyThatStays (.int .i64 k) (.int .i64 k)).run Tryd.prog w = .ok (.int .i64 k) w := by
      unfold Instr.keyThatStays
      simp [Instr.sameBits]
    simp only [Option.map_some, he, mEnt, hk, Option.getD_some, Sem.run_bind, hstay, Result.andThen_ok, hset]
    unfold up
    rw [hf]
    simp only [mEnts_set, List.length_set]
    congr 3
    apply Array.ext_getElem?
    intro i
    rw [Array.getElem?_modify, List.getElem?_toArray, List.getElem?_toArray, List.getElem?_set, mEnts_get, mEnts_len]
    by_cases e : j = i
    · subst e; simp [hj, mEnt]
    · simp [e]

theorem run_rangeMap {w : World} {b : Nat} {L : ML} (h : w.heap[b]? = some (mapObj L)) :
    (Instr.range 96 (.map (some b))).run Tryd.prog w = .ok (.pointer (some ⟨w.heap.size, 0, none⟩)) (w.alloc (.mapIter (some b) L.length #[] L.length)) := by
  unfold Instr.range
  simp only [Sem.run_bind, run_underlying Tryd.underlying96, Result.andThen_ok, run_getMap h, mapObj, Sem.run_pure]
  rfl
/-- the iterator's object -/
def itObj (b : Nat) (L : ML) (seen : List Nat) : Obj := .mapIter (some b) L.length seen.toArray L.length
theorem itObj_start (b : Nat) (L : ML) : Obj.mapIter (some b) L.length #[] L.length = itObj b L [] := rfl

theorem mem_mEnts {L : ML} {e : MapEntry} (h : e ∈ mEnts L) : ∃ i p, L[i]? = some p ∧ e = mEnt p i := by
  obtain ⟨i, hi⟩ := List.mem_iff_getElem?.1 h
  rw [mEnts_get] at hi
  cases hp : L[i]? with
  | none => simp [hp] at hi
  | some p => rw [hp] at hi; exact ⟨i, p, hp, by simpa using hi.symm⟩
theorem born_lt {L : ML} {e : MapEntry} (h : e ∈ mEnts L) : e.born < L.length := by
  obtain ⟨i, p, hp, rfl⟩ := mem_mEnts h
  exact (List.getElem?_eq_some_iff.1 hp).1

def candsOf (L : ML) (seen : List Nat) : List MapEntry := (mEnts L).filter fun e => !seen.contains e.born

theorem run_next_raw {w : World} {b r : Nat} {L : ML} {seen : List Nat} (hb : w.heap[b]? = some (mapObj L)) (hr : w.heap[r]? = some (itObj b L seen)) (ty : TypeId) :
    (candsOf L seen = [] ∧ (Instr.next (.pointer (some ⟨r, 0, none⟩)) false ty).run Tryd.prog w = .ok (.tuple #[.bool false]) w) ∨
    ∃ i p w1, L[i]? = some p ∧ i ∉ seen ∧ (w1 = w ∨ w1 = w.drew) ∧
      (Instr.next (.pointer (some ⟨r, 0, none⟩)) false ty).run Tryd.prog w = .ok (.tuple #[.bool true, .int .i64 p.1, .agg (arrC p.2)]) (w1.putObj r (itObj b L (seen ++ [i]))) := by
  have hgr : (getObj r).run Tryd.prog w = .ok (itObj b L seen) w := by simp [getObj, Sem.run, hr, itObj]
  have hold : ((mEnts L).toArray.filter fun e => !seen.toArray.contains e.born).filter (fun e => decide (e.born < L.length)) = (candsOf L seen).toArray := by
    rw [List.filter_toArray, List.filter_toArray]
    congr 1
    rw [List.filter_filter]
    unfold candsOf
    refine List.filter_congr fun e he => ?_
    simp [born_lt he]
  have hnew : ((mEnts L).toArray.filter fun e => !seen.toArray.contains e.born).filter (fun e => decide (e.born ≥ L.length)) = #[] := by
    rw [List.filter_toArray, List.filter_toArray, List.filter_filter]
    have : (mEnts L).filter (fun e => decide (e.born ≥ L.length) && !seen.toArray.contains e.born) = [] := by
      rw [List.filter_eq_nil_iff]
      intro e he
      have := born_lt he
      simp; omega
    rw [this]
  have hall : (!seen.toArray.isEmpty && !(mEnts L).toArray.isEmpty && (mEnts L).toArray.all (fun e => decide (e.born ≥ L.length))) = false := by
    cases hL : mEnts L with
    | nil => simp
    | cons e l =>
      have := born_lt (L := L) (e := e) (by rw [hL]; simp)
      simp only [List.all_toArray, List.all_cons, decide_eq_false (show ¬ e.born ≥ L.length by omega), Bool.false_and, Bool.and_false]
  have hset : ∀ (w1 : World) (o : Obj), w1.heap[r]? = some (itObj b L seen) → (setObj r o).run Tryd.prog w1 = .ok () (w1.putObj r o) := by
    intro w1 o h1
    simp [setObj, Sem.run, h1, itObj, World.putObj]
  cases hc : candsOf L seen with
  | nil =>
    refine .inl ⟨rfl, ?_⟩
    rw [hc] at hold
    unfold Instr.next
    simp only [Sem.run_bind, hgr, itObj, Result.andThen_ok, run_getMap hb, mapObj, hall, Bool.false_eq_true, if_false, hold, hnew]
    have hcn : ((if (([] : List MapEntry).toArray).isEmpty = true then (#[none] : Array (Option MapEntry)) else #[]) ++ Array.map some (([] : List MapEntry).toArray ++ #[])) = #[none] := by simp
    rw [hcn, run_choose_drew]
    rfl
  | cons e0 l =>
    right
    have hne : ((e0 :: l).toArray ++ (#[] : Array MapEntry)).map some = ((e0 :: l).map some).toArray := by simp
    have hrun : ∀ (j : Nat) (w1 : World), w1.heap[r]? = some (itObj b L seen) → j < (e0 :: l).length →
        ∃ i p, L[i]? = some p ∧ i ∉ seen ∧ (match (((e0 :: l).map some).toArray)[j]? with
          | some (some e) => do
            setObj r (.mapIter (some b) L.length (seen.toArray.push e.born) L.length)
            pure (.tuple #[.bool true, e.key, e.val])
          | some none => pure (.tuple #[.bool false])
          | none => stuck "Next: no such candidate" : Sem Value).run Tryd.prog w1 = .ok (.tuple #[.bool true, .int .i64 p.1, .agg (arrC p.2)]) (w1.putObj r (itObj b L (seen ++ [i]))) := by
      intro j w1 h1 hj
      obtain ⟨e, he⟩ : ∃ e, (e0 :: l)[j]? = some e := ⟨_, List.getElem?_eq_getElem hj⟩
      have hmem : e ∈ candsOf L seen := by rw [hc]; exact List.mem_of_getElem? he
      obtain ⟨hm, hs⟩ := List.mem_filter.1 hmem
      obtain ⟨i, p, hp, rfl⟩ := mem_mEnts hm
      refine ⟨i, p, hp, by simpa [mEnt] using hs, ?_⟩
      have e1 : (((e0 :: l).map some).toArray)[j]? = some (some (mEnt p i)) := by
        rw [List.getElem?_toArray, List.getElem?_map, he]; rfl
      rw [e1]
      simp only [Sem.run_bind, hset w1 _ h1, Result.andThen_ok, Sem.run_pure, mEnt, itObj]
      congr 2
      simp
    rw [hc] at hold
    have hch : ∃ (j : Nat) (w1 : World), (choose (.mapNext ((e0 :: l).map some).toArray.size)).run Tryd.prog w = .ok j w1 ∧ (w1 = w ∨ w1 = w.drew) ∧ j < (e0 :: l).length := by
      rw [run_choose_drew]
      by_cases hfo : (Question.mapNext ((e0 :: l).map some).toArray.size).forced = true
      · exact ⟨0, w, by rw [if_pos hfo], .inl rfl, by simp⟩
      · refine ⟨_, _, by rw [if_neg hfo], .inr rfl, ?_⟩
        simp only [Question.cut]
        have : ((e0 :: l).map some).toArray.size = (e0 :: l).length := by simp
        rw [this]
        exact Nat.mod_lt _ (by simp)
    obtain ⟨j, w1, hcr, hw1, hj⟩ := hch
    have h1 : w1.heap[r]? = some (itObj b L seen) := by rcases hw1 with rfl | rfl <;> exact hr
    obtain ⟨i, p, hp, hns, hr2⟩ := hrun j w1 h1 hj
    refine ⟨i, p, w1, hp, hns, hw1, ?_⟩
    unfold Instr.next
    simp only [Sem.run_bind, hgr, itObj, Result.andThen_ok, run_getMap hb, mapObj, hall, Bool.false_eq_true, if_false, hold, hnew]
    have hemp : (e0 :: l).toArray.isEmpty = false := by simp
    simp only [hemp, Bool.false_eq_true, if_false, Array.empty_append, hne, hcr, Result.andThen_ok]
    exact hr2

theorem run_entry {w : World} {b r i : Nat} {L : ML} {seen : List Nat} {p : Int × (Nat → Int)} (hb : w.heap[b]? = some (mapObj L)) (hr : w.heap[r]? = some (itObj b L (seen ++ [i]))) (hp : L[i]? = some p) :
    (Instr.entry (.pointer (some ⟨r, 0, none⟩))).run Tryd.prog w = .ok (.tuple #[.int .i64 p.1, .agg (arrC p.2)]) w := by
  have hgr : (getObj r).run Tryd.prog w = .ok (itObj b L (seen ++ [i])) w := by simp [getObj, Sem.run, hr, itObj]
  have hback : ((seen ++ [i]).toArray).back? = some i := by simp
  have hfind : (mEnts L).toArray.find? (fun e => e.born == i) = some (mEnt p i) := by
    rw [List.find?_toArray, List.find?_eq_some_iff_getElem]
    refine ⟨by simp [mEnt], i, by rw [mEnts_len]; exact (List.getElem?_eq_some_iff.1 hp).1, ?_, ?_⟩
    · have := mEnts_get L i
      rw [hp] at this
      exact (List.getElem?_eq_some_iff.1 this).2
    · intro j hj
      have h2 : j < L.length := Nat.lt_trans hj (List.getElem?_eq_some_iff.1 hp).1
      have := mEnts_get L j
      rw [List.getElem?_eq_getElem h2] at this
      rw [(List.getElem?_eq_some_iff.1 this).2]
      simp [mEnt]; omega
  unfold Instr.entry
  simp only [Sem.run_bind, hgr, itObj, Result.andThen_ok, hback, run_getMap hb, mapObj, hfind]
  simp [mEnt]
end Go.Proofs.YteilaajjpjhijaaDoor
