/- Walks of the comparison of counts: total, Compare, compare. -/
import Derived.Test.YteilaajjpjhijaaDoorRow
import Derived.Test.YteilaajjpjhijaaDoorW1
import Derived.Test.YteilaajjpjhijaaDoorReg
namespace Go.Proofs.YteilaajjpjhijaaDoor
open Go.RowKit PSpec

def sumTo (c : Nat → Int) (k : Nat) : Int := ((List.range k).map c).sum
theorem sumTo_succ (c : Nat → Int) (k : Nat) : sumTo c (k + 1) = sumTo c k + c k := by
  simp [sumTo, List.range_succ]
def tot (c : Nat → Int) : Int := sumTo c 12
def Small (c : Nat → Int) : Prop := ∀ i, 0 ≤ c i ∧ c i ≤ 1000
theorem sumTo_bd (c : Nat → Int) (h : Small c) (k : Nat) : 0 ≤ sumTo c k ∧ sumTo c k ≤ 1000 * k := by
  induction k with
  | zero => simp [sumTo]
  | succ k ih => rw [sumTo_succ]; have := h k; omega

def cmpI (a b : Int) : Int := if a < b then -1 else if b < a then 1 else 0
def cmpL : List Int → List Int → Int
  | a :: l, b :: m => if cmpI a b = 0 then cmpL l m else cmpI a b
  | _, _ => 0

theorem run_index66 (c : Nat → Int) (k : Nat) (h : k < 12) (w : World) :
    (Instr.index 66 (.agg (arrC c)) (.int .i64 k)).run Tryd.prog w = .ok (.int .i64 (c k)) w := by
  have e : (arrC c)[k]? = some (.int .i64 (c k)) := arrC_get c k h
  have hs : (Tryd.prog.info? 3).map (·.size) = some 1 := by kernel_rfl
  obtain ⟨i, hi, hsz⟩ := Option.map_eq_some_iff.1 hs
  simp [Instr.index, asIntOf, run_underlying Tryd.underlying66, sizeOf, typeInfo, part, isAgg, run_underlying Tryd.underlying3]
  rw [if_pos h]
  simp [hi, hsz, e]

set_option maxHeartbeats 400000 in
theorem f69_any (x : Int) (w : World) : Calls Tryd.prog 69 #[.int .i64 x] w fun e w' => e = .returned (.bool false) ∧ w = w' := by
  go_enter Tryd.func69, Tryd.ntmps69
  go_wp2
  go_ret
  exact ⟨ret_bool (by simp), rfl⟩

set_option maxHeartbeats 400000 in
theorem f53_any (x y : Int) (w : World) : Calls Tryd.prog 53 #[.int .i64 x, .int .i64 y] w fun e w' => e = .returned (.int .i64 (cmpI x y)) ∧ w = w' := by
  go_enter Tryd.func53, Tryd.ntmps53
  go_wp2_with (go_at_call 69; refine (f69_any _ _).mono ?_; rintro e w' ⟨rfl, rfl⟩)
  all_goals
    go_ret
    exact ⟨ret_int (by unfold cmpI; repeat' split
                       all_goals omega), rfl⟩

set_option maxHeartbeats 400000 in
theorem f54_any (c : Nat → Int) (hs : Small c) (w : World) :
    Calls Tryd.prog 54 #[.agg (arrC c)] w fun e w' => e = .returned (.int .i64 (tot c)) ∧ Below w.heap.size w w' := by
  have hr : rowC (w.alloc (.cells (arrC c) 66)) w.heap.size = arrC c := by go_simp
  go_enter Tryd.func54, Tryd.ntmps54
  go_wp2_with (refine wpList_load66 rfl _ rfl _ rfl _ hr (arrC_size _) ?_)
  clear hr
  go_loopw [2, 6] (fun n i wr => ∃ k : Nat, k ≤ 12 ∧ i = .int .i64 k ∧ n = .int .i64 (sumTo c k) ∧ Below w.heap.size w wr) (fun _ i _ => 12 - (intOf i).toNat)
  case atStart => exact ⟨0, Nat.zero_le _, rfl, rfl, (Below.refl _ _).alloc (Nat.le_refl _) _⟩
  case round =>
    obtain ⟨k, hk, rfl, rfl, hb⟩ := hrel
    by_cases hlt : k < 12
    · have hidx := fun w => run_index66 c k hlt w
      have b1 := sumTo_bd c hs k
      have b2 := hs k
      have HS := Lib.hid (sumTo_succ c k)
      go_wp2
      go_roundw
      case rel => exact ⟨k + 1, by omega, by go_num, by rw [HS.out], hb⟩
      case measure => simp [intOf]; omega
    · have hk' : k = 12 := by omega
      subst hk'
      go_wp2
      go_ret
      exact ⟨rfl, hb⟩

def cL (c : Nat → Int) : List Int := (List.range 12).map c

theorem cmpI_zero {x y : Int} (h : cmpI x y = 0) : x = y := by
  unfold cmpI at h; repeat' split at h
  all_goals omega
theorem cmpI_self (x : Int) : cmpI x x = 0 := by simp [cmpI]
theorem cmpL_self (l : List Int) : cmpL l l = 0 := by
  induction l with
  | nil => rfl
  | cons a l ih => simp [cmpL, cmpI_self, ih]
theorem cmpL_at (k : Nat) : ∀ (l m : List Int) (x y : Int), l.take k = m.take k → l[k]? = some x → m[k]? = some y → cmpI x y ≠ 0 → cmpL l m = cmpI x y := by
  induction k with
  | zero =>
    intro l m x y _ hx hy hne
    cases l with
    | nil => simp at hx
    | cons a l =>
      cases m with
      | nil => simp at hy
      | cons b m =>
        simp at hx hy
        subst hx; subst hy
        simp [cmpL, hne]
  | succ k ih =>
    intro l m x y ht hx hy hne
    cases l with
    | nil => simp at hx
    | cons a l =>
      cases m with
      | nil => simp at hy
      | cons b m =>
        simp at ht hx hy
        obtain ⟨rfl, ht⟩ := ht
        simp only [cmpL, cmpI_self, if_true]
        exact ih l m x y ht hx hy hne
theorem cmpL_take (k : Nat) (l m : List Int) (hl : l.length ≤ k) (hm : m.length ≤ k) (h : l.take k = m.take k) : cmpL l m = 0 := by
  rw [List.take_of_length_le hl, List.take_of_length_le hm] at h
  subst h; exact cmpL_self l
theorem take_add {α : Type} (l m : List α) (k : Nat) (x : α) (h : l.take k = m.take k) (hx : l[k]? = some x) (hy : m[k]? = some x) : l.take (k + 1) = m.take (k + 1) := by
  rw [List.take_add_one, List.take_add_one, h, hx, hy]

set_option maxHeartbeats 1000000 in
theorem f55_any (v u : Value) (xs ys : List Int) (w : World) (hl : xs.length = ys.length) (hx : Ints w v xs) (hy : Ints w u ys) :
    Calls Tryd.prog 55 #[v, u] w fun e w' => e = .returned (.int .i64 (cmpL xs ys)) ∧ w = w' := by
  obtain ⟨a, cap, rfl, h1, h2, _, h3⟩ := hx
  obtain ⟨a', cap', rfl, h1', h2', _, h3'⟩ := hy
  unfold maxLen at h2 h2'
  have HL := Lib.hid hl
  have hl1 : xs.length ≤ ys.length := by omega
  have hl2 : ys.length ≤ xs.length := by omega
  clear hl
  go_enter Tryd.func55, Tryd.ntmps55
  go_wp2
  go_loop [11] (fun i => ∃ k : Nat, k ≤ xs.length ∧ i = .int .i64 k ∧ xs.take k = ys.take k) (fun i => xs.length - (intOf i).toNat)
  case atStart => exact ⟨0, Nat.zero_le _, rfl, rfl⟩
  case round =>
    obtain ⟨k, hk, rfl, ht⟩ := hrel
    have HT := Lib.hid ht
    clear ht
    by_cases hlt : k < xs.length
    · obtain ⟨x, hx⟩ := get_some xs k hlt
      obtain ⟨y, hy⟩ := get_some ys k (by omega)
      obtain ⟨b, o, rfl, hc⟩ := h3 (by rintro rfl; simp at hlt)
      obtain ⟨b', o', rfl, hc'⟩ := h3' (by rintro rfl; simp at hy)
      have c0 := hc k x hx
      have c0' := hc' k y hy
      have HX := Lib.hid hx
      have HY := Lib.hid hy
      clear hx hy hc hc' h3 h3'
      go_wp2_with (go_at_call 53; refine (f53_any _ _ _).mono ?_; rintro e w' ⟨rfl, rfl⟩)
      · go_ret
        exact ⟨ret_int (cmpL_at k _ _ x y HT.out HX.out HY.out (by simpa using ‹(cmpI x y != 0) = true›)).symm, rfl⟩
      · go_round
        case rel =>
          have hz : x = y := cmpI_zero (by simpa using ‹(cmpI x y != 0) = false›)
          exact ⟨k + 1, by omega, by go_num, take_add _ _ _ x HT.out HX.out (by rw [hz]; exact HY.out)⟩
        case measure => simp [intOf]; omega
    · go_wp2
      go_ret
      exact ⟨ret_int (cmpL_take k _ _ (by omega) (by omega) HT.out).symm, rfl⟩

/-- the comparison of counts -/
def cmpC (c d : Nat → Int) : Int := if cmpI (tot c) (tot d) ≠ 0 then cmpI (tot c) (tot d) else cmpL (cL d) (cL c)

theorem cL_get (c : Nat → Int) (i : Nat) (x : Int) (h : (cL c)[i]? = some x) : i < 12 ∧ x = c i := by
  unfold cL at h
  have hl : i < ((List.range 12).map c).length := (List.getElem?_eq_some_iff.1 h).1
  simp at hl
  refine ⟨hl, ?_⟩
  simpa [hl] using h.symm
theorem ints_arr (w : World) (g t : Nat) (c : Nat → Int) (hs : Small c) (hg : w.heap[g]? = some (.cells (arrC c) t (0, 0))) :
    Ints w (.slice (some ⟨g, 0, none⟩) 12 12) (cL c) := by
  refine ⟨some ⟨g, 0, none⟩, 12, by simp [cL], by simp [cL], by decide, ?_, fun _ => ⟨g, 0, rfl, fun i x hx => ?_⟩⟩
  · intro x hx
    obtain ⟨i, hi, rfl⟩ := List.mem_map.1 hx
    have := hs i
    exact ⟨by omega, by omega⟩
  · obtain ⟨hi, rfl⟩ := cL_get c i x hx
    rw [cell_of_row w g (0 + i) _ _ _ hg, Nat.zero_add]
    exact arrC_get c i hi

def Two (B : Nat) (c d : Nat → Int) (w0 w : World) : Prop := rowC w B = arrC c ∧ rowC w (B + 1) = arrC d ∧ B + 1 < w.heap.size ∧ Below B w0 w
theorem Two.keep {B : Nat} {c d : Nat → Int} {w0 w w' : World} (h : Two B c d w0 w) (hb : Below w.heap.size w w') : Two B c d w0 w' := by
  obtain ⟨h1, h2, h3, h4⟩ := h
  exact ⟨(rowC_below hb (by omega)).trans h1, (rowC_below hb h3).trans h2, Nat.lt_of_lt_of_le h3 hb.size, h4.trans (hb.mono (by omega))⟩

set_option maxHeartbeats 1000000 in
theorem f35_any (c d : Nat → Int) (hc : Small c) (hd : Small d) (w : World) :
    Calls Tryd.prog 35 #[.agg (arrC c), .agg (arrC d)] w fun e w' => e = .returned (.int .i64 (cmpC c d)) ∧ Below w.heap.size w w' := by
  go_enter Tryd.func35, Tryd.ntmps35
  go_wp2_with fail
  refine wp_region_ord [(0, true), (2, true), (1, false), (3, false), (4, false), (5, true)] (Two w.heap.size c d w)
    (by kernel_rfl) (by kernel_rfl) rfl (by kernel_rfl) (fun _ _ d _ _ h => by cases d <;> exact h) ⟨by go_simp, by go_simp, by simp, (((Below.refl _ _).alloc (Nat.le_refl _) _).alloc (by simp) _).drew⟩ ?_
  have hS : Two w.heap.size c d w ((w.alloc (.cells (arrC c) 66)).alloc (.cells (arrC d) 66)).drew := ⟨by go_simp, by go_simp, by simp, (((Below.refl _ _).alloc (Nat.le_refl _) _).alloc (by simp) _).drew⟩
  have HS := Lib.hid hS
  clear hS
  refine wpO_light _ rfl rfl _ (run_load66 _ rfl _ rfl _ (arrC_size c) fun w hS => hS.1) ?_
  refine wpO_light _ rfl rfl _ (run_load66 _ rfl _ rfl _ (arrC_size d) fun w hS => hS.2.1) ?_
  refine wpO_heavy _ rfl rfl fun K' hK => ?_
  go_simp
  refine (f54_any _ hc _).mono ?_
  rintro e w1 ⟨rfl, hb1⟩
  have HS1 := Lib.hid (HS.out.keep hb1)
  refine hK _ _ ⟨HS1.out, ?_⟩
  clear hK hb1 HS K'
  refine wpO_heavy _ rfl rfl fun K' hK => ?_
  go_simp
  refine (f54_any _ hd _).mono ?_
  rintro e w2 ⟨rfl, hb2⟩
  have HS2 := Lib.hid (HS1.out.keep hb2)
  refine hK _ _ ⟨HS2.out, ?_⟩
  clear hK hb2 HS1 K'
  refine wpO_heavy _ rfl rfl fun K' hK => ?_
  go_simp
  refine (f53_any _ _ _).mono ?_
  rintro e w3 ⟨rfl, rfl⟩
  refine hK _ _ ⟨HS2.out, ?_⟩
  clear hK K'
  refine wpO_light _ rfl rfl _ (fun w' _ => by go_simp; rfl) ?_
  refine wpO_nil ?_
  by_cases ht : cmpI (tot c) (tot d) = 0
  · have ht' : (cmpI (tot c) (tot d) != 0) = false := by simp [ht]
    have HT := Lib.hid ht
    clear ht
    go_wp2_with fail
    have HS3 : Hid (Two w.heap.size c d w w2.drew) := ⟨HS2.out.1, HS2.out.2.1, HS2.out.2.2.1, HS2.out.2.2.2.drew⟩
    refine wp_region_ord [(0, true), (1, true), (2, false), (3, true)] (Two w.heap.size c d w)
      (by kernel_rfl) (by kernel_rfl) rfl (by kernel_rfl) (fun _ _ d _ _ h => by cases d <;> exact h) HS3.out ?_
    refine wpO_light _ rfl rfl _ (fun w' _ => by go_simp; rfl) ?_
    refine wpO_light _ rfl rfl _ (fun w' _ => by go_simp; rfl) ?_
    refine wpO_heavy _ rfl rfl fun K' hK => ?_
    go_simp
    obtain ⟨q1, q2, q3, q4⟩ := HS3.out
    obtain ⟨t1, g1⟩ := rowC_heap (w := w2.drew) (g := w.heap.size) (by rw [q1, arrC_size]; omega)
    obtain ⟨t2, g2⟩ := rowC_heap (w := w2.drew) (g := w.heap.size + 1) (by rw [q2, arrC_size]; omega)
    rw [q1] at g1
    rw [q2] at g2
    refine (f55_any _ _ (cL d) (cL c) _ (by simp [cL]) (ints_arr _ _ _ _ hd g2) (ints_arr _ _ _ _ hc g1)).mono ?_
    rintro e w3 ⟨rfl, rfl⟩
    refine hK _ _ ⟨HS3.out, ?_⟩
    clear hK K' q1 q2 q3 q4 g1 g2
    refine wpO_light _ rfl rfl _ (fun w' _ => by go_simp; rfl) ?_
    refine wpO_nil ?_
    go_wp2_with fail
    go_ret
    exact ⟨ret_int (by unfold cmpC; rw [if_neg (by simp [HT.out])]), HS3.out.2.2.2⟩
  · have ht' : (cmpI (tot c) (tot d) != 0) = true := by simp [ht]
    have HT := Lib.hid ht
    clear ht
    go_wp2_with fail
    go_ret
    exact ⟨ret_int (by unfold cmpC; rw [if_pos HT.out]), HS2.out.2.2.2⟩
end Go.Proofs.YteilaajjpjhijaaDoor
