/- Walks of the small tests: is a number an operation, is an item, a rule, a protocol valid. -/
import Derived.Test.YteilaajjpjhijaaDoorMem
import Derived.Deep.QuietTactic
import Derived.BigQuiet
namespace Go.Proofs.YteilaajjpjhijaaDoor
open Go.RowKit PSpec

theorem opB_t {n : Int} (h : opB n = true) : 0 ≤ n ∧ n < 12 := by simpa [opB] using h
theorem opB_mk {n : Int} (h : 0 ≤ n) (h' : n < 12) : opB n = true := by simp [opB, h, h']
theorem opB_f1 {n : Int} (h : n < 0) : opB n = false := by simp [opB]; omega
theorem opB_f2 {n : Int} (h : 12 ≤ n) : opB n = false := by simp [opB]; omega

set_option maxHeartbeats 400000 in
theorem f30_any (n : Int) (w : World) :
    Calls Tryd.prog 30 #[.int .i64 n] w fun e w' => e = .returned (.bool (opB n)) ∧ w = w' := by
  go_enter Tryd.func30, Tryd.ntmps30
  go_wp2
  · go_ret
    exact ⟨ret_bool (by simp [opB, *]), rfl⟩
  · go_ret
    exact ⟨ret_bool (by simp [opB]; omega), rfl⟩

set_option maxHeartbeats 400000 in
theorem f37_any (n : Int) (w : World) :
    Calls Tryd.prog 37 #[.int .i64 n] w fun e w' => e = .returned (.bool (opB n)) ∧ w = w' := by
  go_enter Tryd.func37, Tryd.ntmps37
  go_wp2
  · go_ret
    exact ⟨ret_bool (by simp [opB, *]), rfl⟩
  · go_ret
    exact ⟨ret_bool (by simp [opB]; omega), rfl⟩

set_option maxHeartbeats 400000 in
theorem f32_any (n : Int) (w : World) :
    Calls Tryd.prog 32 #[.int .i64 n] w fun e w' => e = .returned (.bool (!opB n)) ∧ w = w' := by
  go_enter Tryd.func32, Tryd.ntmps32
  go_wp2_with (go_at_call 30; refine (f30_any _ _).mono ?_; rintro e w' ⟨rfl, rfl⟩)
  go_ret
  exact ⟨rfl, rfl⟩

set_option maxHeartbeats 400000 in
theorem f59_any (x : It) (w : World) :
    Calls Tryd.prog 59 #[itV x] w fun e w' => e = .returned (.bool (!itB x)) ∧ Below w.heap.size w w' := by
  obtain ⟨o, l, m⟩ := x
  unfold itV
  go_enter Tryd.func59, Tryd.ntmps59
  go_wp2_with (go_at_call 30; refine (f30_any _ _).mono ?_; rintro e w' ⟨rfl, rfl⟩)
  all_goals
    go_ret
    exact ⟨ret_bool (by rw [Bool.eq_iff_iff]; simp [itB, *] <;> omega), (Below.refl _ _).alloc (Nat.le_refl _) _⟩

theorem any_snoc {α : Type} (p : α → Bool) (l : List α) (k : Nat) (x : α) (hx : l[k]? = some x) (h : (l.take k).any p = false) (hp : p x = false) : (l.take (k + 1)).any p = false := by
  rw [List.take_add_one, hx]
  simp only [Option.toList_some, List.any_append, h, List.any_cons, hp, List.any_nil, Bool.or_false]
theorem any_found {α : Type} (p : α → Bool) (l : List α) (k : Nat) (x : α) (hx : l[k]? = some x) (hp : p x = true) : l.any p = true :=
  List.any_eq_true.2 ⟨x, List.mem_of_getElem? hx, hp⟩
theorem any_all {α : Type} (p : α → Bool) (l : List α) (k : Nat) (hk : l.length ≤ k) (h : (l.take k).any p = false) : l.any p = false := by
  rwa [List.take_of_length_le hk] at h
theorem get_some {α : Type} (l : List α) (k : Nat) (h : k < l.length) : ∃ x, l[k]? = some x := ⟨l[k], List.getElem?_eq_getElem h⟩

set_option maxHeartbeats 400000 in
theorem f70_any (v : Value) (xs : List It) (w : World) (hi : Items w v xs) :
    Calls Tryd.prog 70 #[v, .func (.func 59) #[] #[]] w fun e w' =>
      ∃ k : Int, e = .returned (.int .i64 k) ∧ decide (0 ≤ k) = xs.any (fun x => !itB x) ∧ Below w.heap.size w w' := by
  obtain ⟨a, cap, rfl, h1, h2, h3⟩ := hi
  unfold maxLen at h2
  go_enter Tryd.func70, Tryd.ntmps70
  go_wp2
  go_loopw [8] (fun i wr => ∃ k : Nat, k ≤ xs.length ∧ i = .int .i64 k ∧ (xs.take k).any (fun x => !itB x) = false ∧ Below w.heap.size w wr) (fun i _ => xs.length - (intOf i).toNat)
  case atStart => exact ⟨0, Nat.zero_le _, rfl, by simp, Below.refl _ _⟩
  case round =>
    obtain ⟨k, hk, rfl, ht, hb⟩ := hrel
    have HT := Lib.hid ht
    clear ht
    by_cases hlt : k < xs.length
    · obtain ⟨x, hx⟩ := get_some xs k hlt
      obtain ⟨b, o, rfl, hc⟩ := h3 (by rintro rfl; simp at hlt)
      obtain ⟨c0, c1, c2⟩ := (hc k x hx).keep (keeps_of_below hb)
      have HX := Lib.hid hx
      clear hx hc h3
      cases hB : itB x
      · have HB := Lib.hid hB
        go_wp2_with fail
        refine (f59_any x _).mono ?_
        rintro e w' ⟨rfl, hb'⟩
        go_wp2
        go_ret
        exact ⟨k, rfl, by rw [any_found _ _ k x HX.out (by simp [HB.out])]; simp, hb.trans (hb'.mono hb.size)⟩
      · have HB := Lib.hid hB
        go_wp2_with fail
        refine (f59_any x _).mono ?_
        rintro e w' ⟨rfl, hb'⟩
        go_wp2
        go_roundw
        case rel => exact ⟨k + 1, by omega, by go_num, any_snoc _ _ _ _ HX.out HT.out (by simp [HB.out]), hb.trans (hb'.mono hb.size)⟩
        case measure => simp [intOf]; omega
    · go_wp2
      go_ret
      exact ⟨-1, rfl, by rw [any_all _ _ k (by omega) HT.out]; simp, hb⟩

set_option maxHeartbeats 400000 in
theorem f60_any (v : Value) (xs : List It) (w : World) (hi : Items w v xs) :
    Calls Tryd.prog 60 #[v, .func (.func 59) #[] #[]] w fun e w' =>
      e = .returned (.bool (xs.any (fun x => !itB x))) ∧ Below w.heap.size w w' := by
  go_enter Tryd.func60, Tryd.ntmps60
  go_wp2_with (go_at_call 70; refine (f70_any _ _ _ hi).mono ?_; rintro e w' ⟨k, rfl, hk, hb⟩; have HK := Lib.hid hk; clear hk)
  go_ret
  exact ⟨ret_bool HK.out, hb⟩


theorem any_not_all {α : Type} (p : α → Bool) (l : List α) : (l.any fun x => !p x) = !l.all p := by
  rw [Bool.eq_iff_iff]; simp

theorem rule_t (o : Int) (its : List It) (h : opB o = true) (h2 : (its.length : Int) ≤ 6) : (!!its.all itB) = ruleB (o, its) := by
  have hl : its.length ≤ 6 := by omega
  simp only [ruleB, h, hl, Bool.not_not, decide_true, Bool.true_and]

set_option maxHeartbeats 400000 in
theorem f43_any (r : Rl) (iv : Value) (w : World) (hi : Items w iv r.2) :
    Calls Tryd.prog 43 #[.agg #[.int .i64 r.1, iv]] w fun e w' => e = .returned (.bool (ruleB r)) ∧ Below w.heap.size w w' := by
  obtain ⟨o, its⟩ := r
  have hi' := hi
  obtain ⟨a, cap, rfl, h1, h2, h3⟩ := hi
  unfold maxLen at h2
  simp only at h1 h3 hi' ⊢
  clear h3
  go_enter Tryd.func43, Tryd.ntmps43
  go_wp2_with (first | (go_at_call 30; refine (f30_any _ _).mono ?_; rintro e w' ⟨rfl, rfl⟩) | (go_at_call 60; refine (f60_any _ its _ (hi'.below ((Below.refl _ _).alloc (Nat.le_refl _) _))).mono ?_; rintro e w' ⟨rfl, hb⟩))
  · go_ret
    refine ⟨ret_bool (by rw [any_not_all]; exact rule_t _ _ ‹_› ‹_›), ((Below.refl _ _).alloc (Nat.le_refl _) _).trans (hb.mono (by simp))⟩
  · go_ret
    refine ⟨ret_bool (by rw [Bool.eq_iff_iff]; simp [ruleB, *]; omega), (Below.refl _ _).alloc (Nat.le_refl _) _⟩
  · go_ret
    refine ⟨ret_bool (by simp [ruleB, *]), (Below.refl _ _).alloc (Nat.le_refl _) _⟩

set_option maxHeartbeats 400000 in
theorem f42_any (r : Rl) (iv : Value) (w : World) (hi : Items w iv r.2) :
    Calls Tryd.prog 42 #[.agg #[.int .i64 r.1, iv]] w fun e w' => e = .returned (.bool (!ruleB r)) ∧ Below w.heap.size w w' := by
  go_enter Tryd.func42, Tryd.ntmps42
  go_wp2_with (go_at_call 43; refine (f43_any r iv _ (hi.below ((Below.refl _ _).alloc (Nat.le_refl _) _))).mono ?_; rintro e w' ⟨rfl, hb⟩)
  go_ret
  exact ⟨rfl, ((Below.refl _ _).alloc (Nat.le_refl _) _).trans (hb.mono (by simp))⟩

set_option maxHeartbeats 400000 in
theorem f58_any (v : Value) (xs : List Rl) (w : World) (hi : Rules w v xs) :
    Calls Tryd.prog 58 #[v, .func (.func 42) #[] #[]] w fun e w' =>
      ∃ k : Int, e = .returned (.int .i64 k) ∧ decide (0 ≤ k) = xs.any (fun x => !ruleB x) ∧ Below w.heap.size w w' := by
  obtain ⟨a, cap, rfl, h1, h2, h3⟩ := hi
  unfold maxLen at h2
  go_enter Tryd.func58, Tryd.ntmps58
  go_wp2
  go_loopw [8] (fun i wr => ∃ k : Nat, k ≤ xs.length ∧ i = .int .i64 k ∧ (xs.take k).any (fun x => !ruleB x) = false ∧ Below w.heap.size w wr) (fun i _ => xs.length - (intOf i).toNat)
  case atStart => exact ⟨0, Nat.zero_le _, rfl, by simp, Below.refl _ _⟩
  case round =>
    obtain ⟨k, hk, rfl, ht, hb⟩ := hrel
    have HT := Lib.hid ht
    clear ht
    by_cases hlt : k < xs.length
    · obtain ⟨x, hx⟩ := get_some xs k hlt
      obtain ⟨b, o, rfl, hc⟩ := h3 (by rintro rfl; simp at hlt)
      obtain ⟨c0, iv, c1, ci⟩ := (hc k x hx).keep (keeps_of_below hb)
      have HX := Lib.hid hx
      clear hx hc h3
      cases hB : ruleB x
      · have HB := Lib.hid hB
        go_wp2_with fail
        refine (f42_any x _ _ ci).mono ?_
        rintro e w' ⟨rfl, hb'⟩
        go_wp2
        go_ret
        exact ⟨k, rfl, by rw [any_found _ _ k x HX.out (by simp [HB.out])]; simp, hb.trans (hb'.mono hb.size)⟩
      · have HB := Lib.hid hB
        go_wp2_with fail
        refine (f42_any x _ _ ci).mono ?_
        rintro e w' ⟨rfl, hb'⟩
        go_wp2
        go_roundw
        case rel => exact ⟨k + 1, by omega, by go_num, any_snoc _ _ _ _ HX.out HT.out (by simp [HB.out]), hb.trans (hb'.mono hb.size)⟩
        case measure => simp [intOf]; omega
    · go_wp2
      go_ret
      exact ⟨-1, rfl, by rw [any_all _ _ k (by omega) HT.out]; simp, hb⟩

set_option maxHeartbeats 400000 in
theorem f41_any (v : Value) (xs : List Rl) (w : World) (hi : Rules w v xs) :
    Calls Tryd.prog 41 #[v, .func (.func 42) #[] #[]] w fun e w' =>
      e = .returned (.bool (xs.any (fun x => !ruleB x))) ∧ Below w.heap.size w w' := by
  go_enter Tryd.func41, Tryd.ntmps41
  go_wp2_with (go_at_call 58; refine (f58_any _ _ _ hi).mono ?_; rintro e w' ⟨k, rfl, hk, hb⟩; have HK := Lib.hid hk; clear hk)
  go_ret
  exact ⟨ret_bool HK.out, hb⟩

set_option maxHeartbeats 400000 in
theorem f51_any (v : Value) (xs : List Int) (w : World) (hi : Ints w v xs) :
    Calls Tryd.prog 51 #[v, .func (.func 32) #[] #[]] w fun e w' =>
      ∃ k : Int, e = .returned (.int .i64 k) ∧ decide (0 ≤ k) = xs.any (fun x => !opB x) ∧ Below w.heap.size w w' := by
  obtain ⟨a, cap, rfl, h1, h2, _, h3⟩ := hi
  unfold maxLen at h2
  go_enter Tryd.func51, Tryd.ntmps51
  go_wp2
  go_loopw [8] (fun i wr => ∃ k : Nat, k ≤ xs.length ∧ i = .int .i64 k ∧ (xs.take k).any (fun x => !opB x) = false ∧ Below w.heap.size w wr) (fun i _ => xs.length - (intOf i).toNat)
  case atStart => exact ⟨0, Nat.zero_le _, rfl, by simp, Below.refl _ _⟩
  case round =>
    obtain ⟨k, hk, rfl, ht, hb⟩ := hrel
    have HT := Lib.hid ht
    clear ht
    by_cases hlt : k < xs.length
    · obtain ⟨x, hx⟩ := get_some xs k hlt
      obtain ⟨b, o, rfl, hc⟩ := h3 (by rintro rfl; simp at hlt)
      have c0 := (keeps_of_below hb) _ _ (hc k x hx)
      have HX := Lib.hid hx
      clear hx hc h3
      cases hB : opB x
      · have HB := Lib.hid hB
        go_wp2_with fail
        refine (f32_any x _).mono ?_
        rintro e w' ⟨rfl, rfl⟩
        go_wp2
        go_ret
        exact ⟨k, rfl, by rw [any_found _ _ k x HX.out (by simp [HB.out])]; simp, hb⟩
      · have HB := Lib.hid hB
        go_wp2_with fail
        refine (f32_any x _).mono ?_
        rintro e w' ⟨rfl, rfl⟩
        go_wp2
        go_roundw
        case rel => exact ⟨k + 1, by omega, by go_num, any_snoc _ _ _ _ HX.out HT.out (by simp [HB.out]), hb⟩
        case measure => simp [intOf]; omega
    · go_wp2
      go_ret
      exact ⟨-1, rfl, by rw [any_all _ _ k (by omega) HT.out]; simp, hb⟩

set_option maxHeartbeats 400000 in
theorem f31_any (v : Value) (xs : List Int) (w : World) (hi : Ints w v xs) :
    Calls Tryd.prog 31 #[v, .func (.func 32) #[] #[]] w fun e w' =>
      e = .returned (.bool (xs.any (fun x => !opB x))) ∧ Below w.heap.size w w' := by
  go_enter Tryd.func31, Tryd.ntmps31
  go_wp2_with (go_at_call 51; refine (f51_any _ _ _ hi).mono ?_; rintro e w' ⟨k, rfl, hk, hb⟩; have HK := Lib.hid hk; clear hk)
  go_ret
  exact ⟨ret_bool HK.out, hb⟩


set_option maxHeartbeats 400000 in
theorem f20_any (v : Value) (p : Pr) (w : World) (hi : Rules w v p) :
    Calls Tryd.prog 20 #[.agg #[v]] w fun e w' => e = .returned (.bool (validB p)) ∧ Below w.heap.size w w' := by
  have hi' := hi
  obtain ⟨a, cap, rfl, h1, h2, h3⟩ := hi
  unfold maxLen at h2
  clear h3
  go_enter Tryd.func20, Tryd.ntmps20
  go_wp2_with (go_at_call 41; refine (f41_any _ p _ (hi'.below ((Below.refl _ _).alloc (Nat.le_refl _) _))).mono ?_; rintro e w' ⟨rfl, hb⟩)
  · go_ret
    refine ⟨ret_bool (by rw [any_not_all]; simp [validB]; omega), ((Below.refl _ _).alloc (Nat.le_refl _) _).trans (hb.mono (by simp))⟩
  · go_ret
    refine ⟨ret_bool (by rw [Bool.eq_iff_iff]; simp [validB]; omega), (Below.refl _ _).alloc (Nat.le_refl _) _⟩

theorem children_f (l : List Int) (h : l.any (fun x => !opB x) = true) : childrenB l = false := by
  rw [any_not_all] at h
  simp only [Bool.not_eq_true'] at h
  simp [childrenB, h]
theorem children_t (l : List Int) (h : l.any (fun x => !opB x) = false) : childrenB l = decide ((l.length : Int) ≤ 30) := by
  rw [any_not_all] at h
  simp only [Bool.not_eq_false'] at h
  simp only [childrenB, h, Bool.true_and]
  rw [Bool.eq_iff_iff]; simp; omega

set_option maxHeartbeats 400000 in
theorem f38_any (v : Value) (xs : List Int) (w : World) (hi : Ints w v xs) :
    Calls Tryd.prog 38 #[v] w fun e w' => e = .returned (.bool (childrenB xs)) ∧ w = w' := by
  obtain ⟨a, cap, rfl, h1, h2, _, h3⟩ := hi
  unfold maxLen at h2
  go_enter Tryd.func38, Tryd.ntmps38
  go_wp2
  go_loop [3] (fun i => ∃ k : Nat, k ≤ xs.length ∧ i = .int .i64 k ∧ (xs.take k).any (fun x => !opB x) = false) (fun i => xs.length - (intOf i).toNat)
  case atStart => exact ⟨0, Nat.zero_le _, rfl, by simp⟩
  case round =>
    obtain ⟨k, hk, rfl, ht⟩ := hrel
    have HT := Lib.hid ht
    clear ht
    by_cases hlt : k < xs.length
    · obtain ⟨x, hx⟩ := get_some xs k hlt
      obtain ⟨b, o, rfl, hc⟩ := h3 (by rintro rfl; simp at hlt)
      have c0 := hc k x hx
      have HX := Lib.hid hx
      clear hx hc h3
      cases hB : opB x
      · have HB := Lib.hid hB
        go_wp2_with (go_at_call 37; refine (f37_any _ _).mono ?_; rintro e w' ⟨rfl, rfl⟩)
        go_ret
        exact ⟨ret_bool (children_f _ (any_found _ _ k x HX.out (by simp [HB.out]))).symm, rfl⟩
      · have HB := Lib.hid hB
        go_wp2_with (go_at_call 37; refine (f37_any _ _).mono ?_; rintro e w' ⟨rfl, rfl⟩)
        go_round
        case rel => exact ⟨k + 1, by omega, by go_num, any_snoc _ _ _ _ HX.out HT.out (by simp [HB.out])⟩
        case measure => simp [intOf]; omega
    · go_wp2
      go_ret
      exact ⟨ret_bool (children_t _ (any_all _ _ k (by omega) HT.out)).symm, rfl⟩

end Go.Proofs.YteilaajjpjhijaaDoor
