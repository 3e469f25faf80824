/- A map from integers to values that a call makes: its block, what its operations do. -/
import Derived.Test.YteilaajjpjhijaaDoorDl
import Derived.Maps.AppendAt
namespace Go.Proofs.YteilaajjpjhijaaDoor
open Go.RowKit PSpec

abbrev MV := List (Int × Value)
def vEnt (p : Int × Value) (i : Nat) : MapEntry := { key := .int .i64 p.1, val := p.2, born := i }
def vEnts (L : MV) : List MapEntry := L.zipIdx.map fun q => vEnt q.1 q.2
def mapV (L : MV) : Obj := .map (vEnts L).toArray L.length

def lkV (L : MV) (k : Int) : Option Value := (L.find? fun p => p.1 == k).map (·.2)
def upV (L : MV) (k : Int) (c : Value) : MV :=
  match L.findIdx? fun p => p.1 == k with
  | some j => L.set j (k, c)
  | none => L ++ [(k, c)]

theorem vEnts_len (L : MV) : (vEnts L).length = L.length := by simp [vEnts]
theorem vEnts_get (L : MV) (i : Nat) : (vEnts L)[i]? = (L[i]?).map fun p => vEnt p i := by
  unfold vEnts
  rw [List.getElem?_map, List.getElem?_zipIdx]
  cases L[i]? <;> simp

theorem zipV_find (k : Int) : ∀ (L : MV) (s i : Nat), Instr.findNow (.int .i64) (.int .i64 k) (L.zipIdx s |>.map fun q => vEnt q.1 q.2) i =
    some ((L.findIdx? fun p => p.1 == k).map fun j => (i + j, (lkV L k).getD (.slice none 0 0))) := by
  intro L
  induction L with
  | nil => intro s i; rfl
  | cons p L ih =>
    intro s i
    simp only [List.zipIdx_cons, List.map_cons, Instr.findNow, vEnt, Instr.sameNow, if_true]
    by_cases h : p.1 = k
    · have h1 : (k == p.1) = true := by simp [h]
      have h2 : (p.1 == k) = true := by simp [h]
      simp [h1, h2, lkV, List.findIdx?_cons]
    · have h1 : (k == p.1) = false := by simp; omega
      have h2 : (p.1 == k) = false := by simp; omega
      have := ih (s + 1) (i + 1)
      simp only [vEnt] at this
      simp only [h1, this]
      simp only [List.findIdx?_cons, h2, Bool.false_eq_true, if_false, Option.map_map]
      congr 2
      have e : lkV (p :: L) k = lkV L k := by simp [lkV, h2]
      rw [e]
      funext j
      simp [Function.comp]; omega

theorem findNow_vEnts (L : MV) (k : Int) : Instr.findNow (.int .i64) (.int .i64 k) (vEnts L) 0 =
    some ((L.findIdx? fun p => p.1 == k).map fun j => (j, (lkV L k).getD (.slice none 0 0))) := by
  have := zipV_find k L 0 0
  simpa [vEnts] using this

theorem lkV_isSome (L : MV) (k : Int) : (lkV L k).isSome = (L.findIdx? fun p => p.1 == k).isSome := by
  unfold lkV
  rw [Bool.eq_iff_iff]
  simp

theorem run_findKeyV (L : MV) (k : Int) (w : World) : (Instr.findKey 3 (.int .i64 k) (vEnts L)).run Tryd.prog w =
    .ok ((L.findIdx? fun p => p.1 == k).map fun j => (j, (lkV L k).getD (.slice none 0 0))) w := by
  unfold Instr.findKey
  simp only [Sem.run_bind, run_underlying Tryd.underlying3, Result.andThen_ok, findNow_vEnts, Sem.run_pure]
theorem run_checkKeyV (b : Bool) (k : Int) (w : World) : (Instr.checkKey b 10000 3 (.int .i64 k)).run Tryd.prog w = .ok () w := by
  unfold Instr.checkKey
  simp [Sem.run_bind, run_underlying Tryd.underlying3]

theorem run_getMapV {w : World} {b : Nat} {L : MV} (h : w.heap[b]? = some (mapV L)) : (getObj b).run Tryd.prog w = .ok (mapV L) w := by
  simp [getObj, Sem.run, h, mapV]

theorem run_lookupV {w : World} {b : Nat} {L : MV} (k : Int) (h : w.heap[b]? = some (mapV L)) :
    (Instr.lookup 63 (.map (some b)) (.int .i64 k) false).run Tryd.prog w = .ok ((lkV L k).getD (.slice none 0 0)) w := by
  unfold Instr.lookup
  simp only [Sem.run_bind, run_underlying Tryd.underlying63, Result.andThen_ok, run_getMapV h, mapV, Sem.run_pure, run_checkKeyV, run_findKeyV]
  cases hf : L.findIdx? fun p => p.1 == k with
  | some j => simp
  | none =>
    have : lkV L k = none := by
      have := lkV_isSome L k
      rw [hf] at this
      simpa using this
    simp only [Option.map_none, Sem.run_bind, Tryd.zeroValue22, Result.andThen_ok, Sem.run_pure, this, Option.getD_none]
    rfl

theorem vEnts_snoc (L : MV) (k : Int) (c : Value) : vEnts (L ++ [(k, c)]) = vEnts L ++ [vEnt (k, c) L.length] := by
  simp [vEnts, List.zipIdx_append]
theorem vEnts_set (L : MV) (j : Nat) (k : Int) (c : Value) : vEnts (L.set j (k, c)) = (vEnts L).set j (vEnt (k, c) j) := by
  apply List.ext_getElem?
  intro i
  rw [vEnts_get, List.getElem?_set, List.getElem?_set, vEnts_get, vEnts_len]
  by_cases h : j = i
  · subst h
    by_cases hl : j < L.length <;> simp [hl]
  · simp [h]

theorem run_mapUpdateV {w : World} {b : Nat} {L : MV} (k : Int) (c : Value) (h : w.heap[b]? = some (mapV L)) :
    (Instr.mapUpdate 63 (.map (some b)) (.int .i64 k) c).run Tryd.prog w = .ok () (w.putObj b (mapV (upV L k c))) := by
  unfold Instr.mapUpdate
  simp only [Sem.run_bind, run_underlying Tryd.underlying63, Result.andThen_ok, run_getMapV h, mapV, run_checkKeyV, run_findKeyV]
  have hset : ∀ (es : Array MapEntry) (cl : Nat), (setObj b (.map es cl)).run Tryd.prog w = .ok () (w.putObj b (.map es cl)) := by
    intro es cl
    simp [setObj, Sem.run, h, mapV, World.putObj]
  cases hf : L.findIdx? fun p => p.1 == k with
  | none =>
    simp only [Option.map_none, hset]
    unfold upV
    rw [hf]
    simp only [vEnts_snoc, List.length_append, List.length_cons, List.length_nil, List.push_toArray]
    rfl
  | some j =>
    obtain ⟨hj, hp, _⟩ := List.findIdx?_eq_some_iff_getElem.1 hf
    have hk : L[j].1 = k := by simpa using hp
    have he : ((vEnts L).toArray)[j]? = some (vEnt L[j] j) := by
      rw [List.getElem?_toArray, vEnts_get, List.getElem?_eq_getElem hj]; rfl
    have hstay : (Instr.keyThatStays (.int .i64 k) (.int .i64 k)).run Tryd.prog w = .ok (.int .i64 k) w := by
      unfold Instr.keyThatStays
      simp [Instr.sameBits]
    simp only [Option.map_some, he, vEnt, hk, Option.getD_some, Sem.run_bind, hstay, Result.andThen_ok, hset]
    unfold upV
    rw [hf]
    simp only [vEnts_set, List.length_set]
    congr 3
    apply Array.ext_getElem?
    intro i
    rw [Array.getElem?_modify, List.getElem?_toArray, List.getElem?_toArray, List.getElem?_set, vEnts_get, vEnts_len]
    by_cases e : j = i
    · subst e; simp [hj, vEnt]
    · simp [e]


end Go.Proofs.YteilaajjpjhijaaDoor
