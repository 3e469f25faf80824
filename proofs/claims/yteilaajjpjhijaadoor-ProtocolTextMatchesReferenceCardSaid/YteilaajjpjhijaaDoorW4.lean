/- Walks of the list of what is missing and of the least of some counts. -/
import Derived.Test.YteilaajjpjhijaaDoorW3
namespace Go.Proofs.YteilaajjpjhijaaDoor
open Go.RowKit PSpec

theorem Tryd.info3 : (Tryd.prog.info? 3).map (fun i => (i.zero, i.size, i.bytes)) = some (some (.int .i64 0), 1, 8) := by kernel_rfl

theorem Tryd.parts3 : ∃ i0, Hid (Tryd.prog.info? 3 = some i0 ∧ i0.zero = some (.int .i64 0) ∧ i0.size = 1 ∧ i0.bytes = 8) := by
  obtain ⟨i0, hi, hz0, hz1, hz2⟩ := info_parts Tryd.info3
  exact ⟨i0, hi, hz0, hz1, hz2⟩

/-- append of one integer to a row of the call's own -/
theorem wpList_appI {ops : Array Oper} {rest : List Oper} {o : Oper} {a : Act} {w : World} {Q : Exit → Act → World → Prop} (hgd : o.guard = none) (s x : Operand)
    (ho : o.op = .call { callee := .builtin .append, args := #[s, x], argTypes := #[26, 26] })
    (base : Nat) (v : Value) (n : Nat) (xs : List Value) (hs : a.eval s = v) (hown : w.ownsRow base 3 1 v n xs)
    (g : Nat) (y : Value) (hx : a.eval x = .slice (some ⟨g, 0, none⟩) 1 1) (hc : w.cell? ⟨g, 0, none⟩ = some y) (h1 : y.oneCell' = true)
    (hn : n ≤ 1000000000000) (hbase : base ≤ w.heap.size)
    (h : ∀ v' w', w'.ownsRow base 3 1 v' (n + 1) (xs ++ [y]) → w.grownBy w' v.ownBlock → wpList Tryd.prog ops Q rest (a.put o.dst v') w') : wpList Tryd.prog ops Q (o :: rest) a w := by
  obtain ⟨i0, HI⟩ := Tryd.parts3
  refine wpList_append_own w hgd s x 26 ho base 3 i0 (.int .i64 0) 1 8 Tryd.underlying26 HI.out.1 HI.out.2.1 HI.out.2.2.1 HI.out.2.2.2 rfl (by decide) v n xs hs hown ⟨g, 0, none⟩ 1 1 [y] hx rfl ?_ ?_ ?_ ?_ hbase ?_
  · intro j u hu
    match j with
    | 0 =>
      obtain rfl : y = u := by simpa using hu
      rw [Addr.add_mid, Nat.zero_add]; exact hc
    | j + 1 => simp at hu
  · intro u hu
    obtain rfl : u = y := by simpa using hu
    exact h1
  · unfold maxLen; omega
  · omega
  · exact fun v' w' h2 h3 _ => h v' w' h2 h3

/-- a row of integers that the call owns reads as a list -/
theorem ints_own {w : World} {base n : Nat} {v : Value} {xs : List Int} (h : w.ownsRow base 3 1 v n (xs.map (Value.int .i64))) (hx : ∀ x, x ∈ xs → I64 x) : Ints w v xs := by
  obtain ⟨hl, h⟩ := h
  simp at hl
  rcases h with ⟨rfl, rfl⟩ | ⟨g, cap, cur, rfl, _, hg, hn, hc, hs, ht⟩
  · obtain rfl : xs = [] := List.length_eq_zero_iff.1 hl
    exact ⟨none, 0, rfl, Nat.le_refl _, by decide, hx, fun h => absurd rfl h⟩
  · refine ⟨some ⟨g, 0, none⟩, cap, by rw [hl], by omega, hc, hx, fun _ => ⟨g, 0, rfl, fun i x hi => ?_⟩⟩
    rw [Nat.zero_add, cell_of_row w g i cur _ _ hg]
    have h2 : (xs.map (Value.int .i64))[i]? = some (.int .i64 x) := by simp [hi]
    rw [← ht, List.getElem?_take] at h2
    split at h2
    · simpa using h2
    · cases h2

def listTo (c : Nat → Int) (k : Nat) : List Int := (List.range k).flatMap fun i => List.replicate (c i).toNat (i : Int)
theorem listTo_succ (c : Nat → Int) (k : Nat) : listTo c (k + 1) = listTo c k ++ List.replicate (c k).toNat (k : Int) := by
  simp [listTo, List.range_succ]
theorem listTo_len (c : Nat → Int) (hs : Small c) (k : Nat) : (listTo c k).length ≤ 1000 * k := by
  induction k with
  | zero => simp [listTo]
  | succ k ih => rw [listTo_succ]; have := hs k; simp; omega
theorem listTo_mem (c : Nat → Int) (k : Nat) (x : Int) (h : x ∈ listTo c k) : 0 ≤ x ∧ x < k := by
  unfold listTo at h
  simp only [List.mem_flatMap, List.mem_range, List.mem_replicate] at h
  obtain ⟨i, hi, _, rfl⟩ := h
  omega

theorem map_rep (l : List Int) (j : Nat) (y : Int) : (l ++ List.replicate (j + 1) y).map (Value.int .i64) = (l ++ List.replicate j y).map (Value.int .i64) ++ [.int .i64 y] := by
  simp [List.replicate_succ']

set_option maxHeartbeats 2000000 in
theorem f36_any (c : Nat → Int) (hs : Small c) (w : World) :
    Calls Tryd.prog 36 #[.agg (arrC c)] w fun e w' => ∃ v, e = .returned v ∧ Ints w' v (listTo c 12) ∧ Below w.heap.size w w' := by
  have hr : rowC (w.alloc (.cells (arrC c) 66)) w.heap.size = arrC c := by go_simp
  go_enter Tryd.func36, Tryd.ntmps36
  go_wp2_with (refine wpList_load66 rfl _ rfl _ rfl _ hr (arrC_size _) ?_)
  clear hr
  go_loopw [3, 7] (fun v i wr => ∃ k : Nat, k ≤ 12 ∧ i = .int .i64 k ∧ wr.ownsRow w.heap.size 3 1 v (listTo c k).length ((listTo c k).map (Value.int .i64)) ∧ Below w.heap.size w wr) (fun _ i _ => 12 - (intOf i).toNat)
  case atStart => exact ⟨0, Nat.zero_le _, rfl, by simpa [listTo] using World.ownsRow_nil _ _ _ _, (Below.refl _ _).alloc (Nat.le_refl _) _⟩
  case round =>
    obtain ⟨k, hk, rfl, hown, hb⟩ := hrel
    have HO := Lib.hid hown
    clear hown
    have hbl := listTo_len c hs k
    have hbk := hs k
    by_cases hlt : k < 12
    · have hidx := fun w => run_index66 c k hlt w
      have hd : decide ((k : Int) < 12) = true := by simp; omega
      obtain ⟨wo, rfl⟩ : ∃ wo : World, wo = wr := ⟨_, rfl⟩
      go_wp2_with fail
      go_loopw [3, 12] (fun v i wr => ∃ j : Nat, (j : Int) ≤ c k ∧ i = .int .i64 j ∧ wr.ownsRow w.heap.size 3 1 v ((listTo c k).length + j) (((listTo c k) ++ List.replicate j (k : Int)).map (Value.int .i64)) ∧ Below w.heap.size w wr) (fun _ i _ => (c k - intOf i).toNat)
      case atStart => exact ⟨0, by omega, rfl, by simpa using HO.out, hb⟩
      case round =>
        obtain ⟨j, hj, rfl, hown, hb'⟩ := hrel
        clear hidx
        by_cases hjl : (j : Int) < c k
        · have HB := Lib.hid hb'
          have hsz := hb'.size
          have hlen : (listTo c k).length + j ≤ 1000000 := by omega
          go_wp2_with (at_builtin; refine wpList_appI rfl _ _ rfl w.heap.size _ _ _ rfl (hown.alloc _) wr.heap.size (.int .i64 (k : Int)) rfl (by go_simp) rfl (by omega) (by simp; omega) ?_; intro v' w1 hown' hgrow)
          have hb2 : Below w.heap.size w w1 := (hb'.alloc hsz _).grown hgrow (by simp; omega) (fun k e => (hown.lt k e).1)
          go_roundw
          case rel => exact ⟨j + 1, by omega, by go_num, by rw [map_rep]; exact hown', hb2⟩
          case measure => simp [intOf]; omega
        · have hj2 : j = (c k).toNat := by omega
          subst hj2
          have HW := Lib.hid hown
          clear hown
          go_wp2
          go_roundw
          case rel => exact ⟨k + 1, by omega, by go_num, by rw [listTo_succ, List.length_append, List.length_replicate]; exact HW.out, hb'⟩
          case measure => simp [intOf]; omega
    · have hk' : k = 12 := by omega
      subst hk'
      go_wp2
      go_ret
      exact ⟨_, rfl, ints_own HO.out (fun x hx => by have := listTo_mem c 12 x hx; exact ⟨by omega, by omega⟩), hb⟩
end Go.Proofs.YteilaajjpjhijaaDoor
