/- Walks of small functions: pick, equality of lists, the reference's test of children and its order. -/
import Derived.Test.YteilaajjpjhijaaDoorW4
namespace Go.Proofs.YteilaajjpjhijaaDoor
open Go.RowKit PSpec

theorem pickZ_bd (c n : Int) (hn : 0 < n) : 0 ≤ pickZ c n ∧ pickZ c n < n := by
  unfold pickZ
  exact ⟨Int.emod_nonneg _ (by omega), Int.emod_lt_of_pos _ hn⟩

set_option maxHeartbeats 400000 in
theorem f13_any (c n : Int) (w : World) (hc : I64 c) (hn : 0 < n) (hn2 : n ≤ 1000000000000) :
    Calls Tryd.prog 13 #[.int .i64 c, .int .i64 n] w fun e w' => e = .returned (.int .i64 (pickZ c n)) ∧ w = w' := by
  obtain ⟨c1, c2⟩ := hc
  by_cases h : c < 0
  · go_enter Tryd.func13, Tryd.ntmps13
    go_wp2
    go_ret
    exact ⟨ret_int (by unfold pickZ; rw [if_pos h, ← Int.neg_tmod, Int.tmod_eq_emod_of_nonneg (by omega)]), rfl⟩
  · go_enter Tryd.func13, Tryd.ntmps13
    go_wp2
    go_ret
    exact ⟨ret_int (by unfold pickZ; rw [if_neg (by omega)]), rfl⟩
set_option maxHeartbeats 400000 in
theorem f29_any (c n : Int) (w : World) (hc : I64 c) (hn : 0 < n) (hn2 : n ≤ 1000000000000) :
    Calls Tryd.prog 29 #[.int .i64 c, .int .i64 n] w fun e w' => e = .returned (.int .i64 (pickZ c n)) ∧ w = w' := by
  obtain ⟨c1, c2⟩ := hc
  by_cases h : c < 0
  · go_enter Tryd.func29, Tryd.ntmps29
    go_wp2
    go_ret
    exact ⟨ret_int (by unfold pickZ; rw [if_pos h, ← Int.neg_tmod, Int.tmod_eq_emod_of_nonneg (by omega)]), rfl⟩
  · go_enter Tryd.func29, Tryd.ntmps29
    go_wp2
    go_ret
    exact ⟨ret_int (by unfold pickZ; rw [if_neg (by omega)]), rfl⟩

theorem list_ne_at {xs ys : List Int} {k : Nat} {x y : Int} (hx : xs[k]? = some x) (hy : ys[k]? = some y) (h : x ≠ y) : decide (xs = ys) = false := by
  simp only [decide_eq_false_iff_not]
  rintro rfl
  rw [hx] at hy
  exact h (by simpa using hy)
theorem list_eq_all {xs ys : List Int} {k : Nat} (hl : xs.length ≤ k) (hm : ys.length ≤ k) (h : xs.take k = ys.take k) : decide (xs = ys) = true := by
  rw [List.take_of_length_le hl, List.take_of_length_le hm] at h
  simpa using h
theorem below_drewN {B : Nat} {a w : World} (h : Below B a w) (n : Nat) : Below B a (w.drewN n) := ⟨h.os, h.tape, h.output, h.size, h.block⟩

set_option maxHeartbeats 1000000 in
theorem f17_any (v u : Value) (xs ys : List Int) (w : World) (hx : Ints w v xs) (hy : Ints w u ys) :
    Calls Tryd.prog 17 #[v, u] w fun e w' => e = .returned (.bool (decide (xs = ys))) ∧ Below w.heap.size w w' := by
  obtain ⟨a, cap, rfl, h1, h2, _, h3⟩ := hx
  obtain ⟨a', cap', rfl, h1', h2', _, h3'⟩ := hy
  unfold maxLen at h2 h2'
  by_cases hl : xs.length = ys.length
  · have hd1 : ((xs.length : Int) != (ys.length : Int)) = false := by simp [hl]
    have hd2 : (xs.length != ys.length) = false := by simp [hl]
    have hl1 : xs.length ≤ ys.length := by omega
    have hl2 : ys.length ≤ xs.length := by omega
    clear hl
    go_enter Tryd.func17, Tryd.ntmps17
    go_wp2
    go_loopw [5] (fun i wr => ∃ k : Nat, k ≤ xs.length ∧ i = .int .i64 k ∧ xs.take k = ys.take k ∧ Below w.heap.size w wr) (fun i _ => xs.length - (intOf i).toNat)
    case atStart => exact ⟨0, Nat.zero_le _, rfl, rfl, Below.refl _ _⟩
    case round =>
      obtain ⟨k, hk, rfl, ht, hb⟩ := hrel
      have HT := Lib.hid ht
      have HB := Lib.hid hb
      clear ht hb
      by_cases hlt : k < xs.length
      · obtain ⟨x, hx⟩ := get_some xs k hlt
        obtain ⟨y, hy⟩ := get_some ys k (by omega)
        obtain ⟨b, o, rfl, hc⟩ := h3 (by rintro rfl; simp at hlt)
        obtain ⟨b', o', rfl, hc'⟩ := h3' (by rintro rfl; simp at hy)
        have c0 := keeps_of_below HB.out _ _ (hc k x hx)
        have c0' := keeps_of_below HB.out _ _ (hc' k y hy)
        have HX := Lib.hid hx
        have HY := Lib.hid hy
        have i0 : (0 : Int) ≤ (k : Int) := by omega
        have i1 : (k : Int) < (xs.length : Int) := by omega
        have i2 : (k : Int) < (ys.length : Int) := by omega
        clear hx hy hc hc' h3 h3'
        go_wp2_with fail
        go_quiet (fail)
        by_cases hxy : x = y
        · subst hxy
          have hd : (x != x) = false := by simp
          go_wp2_with fail
          go_roundw
          case rel => exact ⟨k + 1, by omega, by go_num, take_add _ _ _ x HT.out HX.out HY.out, below_drewN HB.out _⟩
          case measure => simp [intOf]; omega
        · have hd : (x != y) = true := by simp [hxy]
          have HN := Lib.hid hxy
          clear hxy
          go_wp2_with fail
          go_ret
          exact ⟨ret_bool (list_ne_at HX.out HY.out HN.out).symm, below_drewN HB.out _⟩
      · go_wp2
        go_ret
        exact ⟨ret_bool (list_eq_all (by omega) (by omega) HT.out).symm, HB.out⟩
  · have hd1 : ((xs.length : Int) != (ys.length : Int)) = true := by simp; omega
    have hd2 : (xs.length != ys.length) = true := by simp [hl]
    have HL := Lib.hid hl
    clear hl
    go_enter Tryd.func17, Tryd.ntmps17
    go_wp2
    go_ret
    exact ⟨ret_bool (by symm; simp only [decide_eq_false_iff_not]; exact fun e => HL.out (by rw [e])), Below.refl _ _⟩
end Go.Proofs.YteilaajjpjhijaaDoor
