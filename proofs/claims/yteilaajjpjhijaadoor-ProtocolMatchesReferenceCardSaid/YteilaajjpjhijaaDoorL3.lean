/- Walk of the law MatchesReference, with the walks of the reference's Match. -/
import Derived.Test.YteilaajjpjhijaaDoorW1
import Derived.Test.YteilaajjpjhijaaDoorL7
import Derived.Great.Frames
namespace Go.Proofs.YteilaajjpjhijaaDoor
open Go.RowKit PSpec

theorem rule_f (o : Int) (its : List It) (h : its.any (fun x => !itB x) = true) : ruleB (o, its) = false := by
  rw [any_not_all] at h
  simp only [Bool.not_eq_true'] at h
  simp [ruleB, h]

set_option maxHeartbeats 1000000 in
theorem f44_any (r : Rl) (iv : Value) (w : World) (hi : Items w iv r.2) :
    Calls Tryd.prog 44 #[.agg #[.int .i64 r.1, iv]] w fun e w' => e = .returned (.bool (ruleB r)) ∧ Below w.heap.size w w' := by
  obtain ⟨ro, its⟩ := r
  obtain ⟨a, cap, rfl, h1, h2, h3⟩ := hi
  unfold maxLen at h2
  simp only at h1 h3 ⊢
  by_cases hop : opB ro = true
  · by_cases hlen : (its.length : Int) ≤ 6
    · go_enter Tryd.func44, Tryd.ntmps44
      go_wp2_with (go_at_call 37; refine (f37_any _ _).mono ?_; rintro e w' ⟨rfl, rfl⟩)
      go_loopw [3] (fun i wr => ∃ k : Nat, k ≤ its.length ∧ i = .int .i64 k ∧ (its.take k).any (fun x => !itB x) = false ∧ Below (w.heap.size + 1) (w.alloc (.cells #[.int .i64 ro, .slice a its.length cap] 55)) wr) (fun i _ => its.length - (intOf i).toNat)
      case atStart => exact ⟨0, Nat.zero_le _, rfl, by simp, Below.refl _ _⟩
      case round =>
        obtain ⟨k, hk, rfl, ht, hb⟩ := hrel
        have HT := Lib.hid ht
        have hc1 := (hb.cell (p := ⟨w.heap.size, 1, none⟩) (by simp))
        have hc1 : wr.cell? ⟨w.heap.size, 1, none⟩ = some (.slice a its.length cap) := by rw [hc1]; go_simp
        have hbw : Below w.heap.size w wr := ((Below.refl _ _).alloc (Nat.le_refl _) _).trans (hb.mono (by simp))
        clear ht
        by_cases hlt : k < its.length
        · obtain ⟨x, hx⟩ := get_some its k hlt
          obtain ⟨b, o, rfl, hc⟩ := h3 (by rintro rfl; simp at hlt)
          obtain ⟨c0, c1, c2⟩ := (hc k x hx).keep (keeps_of_below hbw)
          have HX := Lib.hid hx
          clear hx hc h3
          go_wp2_with (go_at_call 37; refine (f37_any _ _).mono ?_; rintro e w' ⟨rfl, rfl⟩)
          all_goals first
            | (go_ret; exact ⟨ret_bool (rule_f _ _ (any_found _ _ k x HX.out (by rw [Bool.not_eq_true', Bool.eq_false_iff]; simp [itB, *] <;> omega))).symm, hbw.alloc hbw.size _⟩)
            | skip
          go_roundw
          case rel => exact ⟨k + 1, by omega, by go_num, any_snoc _ _ _ _ HX.out HT.out (by simp [itB, *] <;> omega), hb.alloc (by have := hb.size; simpa using this) _⟩
          case measure => simp [intOf]; omega
        · go_wp2
          go_ret
          exact ⟨ret_bool (by rw [← rule_t _ _ hop hlen, ← any_not_all, any_all _ _ k (by omega) HT.out]; rfl), hbw⟩
    · go_enter Tryd.func44, Tryd.ntmps44
      go_wp2_with (go_at_call 37; refine (f37_any _ _).mono ?_; rintro e w' ⟨rfl, rfl⟩)
      go_ret
      exact ⟨ret_bool (by rw [Bool.eq_iff_iff]; simp [ruleB, *]; omega), (Below.refl _ _).alloc (Nat.le_refl _) _⟩
  · go_enter Tryd.func44, Tryd.ntmps44
    go_wp2_with (go_at_call 37; refine (f37_any _ _).mono ?_; rintro e w' ⟨rfl, rfl⟩)
    go_ret
    exact ⟨ret_bool (by simp [ruleB, *]), (Below.refl _ _).alloc (Nat.le_refl _) _⟩

theorem valid_f (p : Pr) (h : p.any (fun x => !ruleB x) = true) : validB p = false := by
  rw [any_not_all] at h
  simp only [Bool.not_eq_true'] at h
  simp [validB, h]
theorem valid_t (p : Pr) (h2 : (p.length : Int) ≤ 24) (h : p.any (fun x => !ruleB x) = false) : validB p = true := by
  rw [any_not_all] at h
  have hl : p.length ≤ 24 := by omega
  simp only [Bool.not_eq_false'] at h
  simp [validB, h, hl]

set_option maxHeartbeats 1000000 in
theorem f21_any (v : Value) (p : Pr) (w : World) (hi : Rules w v p) :
    Calls Tryd.prog 21 #[.agg #[v]] w fun e w' => e = .returned (.bool (validB p)) ∧ Below w.heap.size w w' := by
  obtain ⟨a, cap, rfl, h1, h2, h3⟩ := hi
  unfold maxLen at h2
  by_cases hlen : (p.length : Int) ≤ 24
  · go_enter Tryd.func21, Tryd.ntmps21
    go_wp2
    go_loopw [3] (fun i wr => ∃ k : Nat, k ≤ p.length ∧ i = .int .i64 k ∧ (p.take k).any (fun x => !ruleB x) = false ∧ Below (w.heap.size + 1) (w.alloc (.cells #[.slice a p.length cap] 24)) wr) (fun i _ => p.length - (intOf i).toNat)
    case atStart => exact ⟨0, Nat.zero_le _, rfl, by simp, Below.refl _ _⟩
    case round =>
      obtain ⟨k, hk, rfl, ht, hb⟩ := hrel
      have HT := Lib.hid ht
      have hc1 := (hb.cell (p := ⟨w.heap.size, 0, none⟩) (by simp))
      have hc1 : wr.cell? ⟨w.heap.size, 0, none⟩ = some (.slice a p.length cap) := by rw [hc1]; go_simp
      have hbw : Below w.heap.size w wr := ((Below.refl _ _).alloc (Nat.le_refl _) _).trans (hb.mono (by simp))
      clear ht
      by_cases hlt : k < p.length
      · obtain ⟨x, hx⟩ := get_some p k hlt
        obtain ⟨b, o, rfl, hc⟩ := h3 (by rintro rfl; simp at hlt)
        obtain ⟨c0, iv, c1, ci⟩ := (hc k x hx).keep (keeps_of_below hbw)
        have HX := Lib.hid hx
        have HI := Lib.hid ci
        clear hx hc h3 ci
        cases hB : ruleB x
        · have HB := Lib.hid hB
          go_wp2_with (go_at_call 44; refine (f44_any x _ _ HI.out).mono ?_; rintro e w' ⟨rfl, hb'⟩)
          go_ret
          exact ⟨ret_bool (valid_f _ (any_found _ _ k x HX.out (by simp [HB.out]))).symm, hbw.trans (hb'.mono hbw.size)⟩
        · have HB := Lib.hid hB
          go_wp2_with (go_at_call 44; refine (f44_any x _ _ HI.out).mono ?_; rintro e w' ⟨rfl, hb'⟩)
          go_roundw
          case rel => exact ⟨k + 1, by omega, by go_num, any_snoc _ _ _ _ HX.out HT.out (by simp [HB.out]), hb.trans (hb'.mono (by have := hb.size; simpa using this))⟩
          case measure => simp [intOf]; omega
      · go_wp2
        go_ret
        exact ⟨ret_bool (valid_t _ hlen (any_all _ _ k (by omega) HT.out)).symm, hbw⟩
  · go_enter Tryd.func21, Tryd.ntmps21
    go_wp2
    go_ret
    exact ⟨ret_bool (by rw [Bool.eq_iff_iff]; simp [validB]; omega), (Below.refl _ _).alloc (Nat.le_refl _) _⟩

end Go.Proofs.YteilaajjpjhijaaDoor
namespace Go.Proofs.YteilaajjpjhijaaDoor
open Go.RowKit PSpec

theorem lexB_at {xs ys : List Int} {k : Nat} {x y : Int} (h : xs.take k = ys.take k) (hx : xs[k]? = some x) (hy : ys[k]? = some y) (hne : x ≠ y) : lexB xs ys = decide (x < y) := by
  induction k generalizing xs ys with
  | zero =>
    cases xs with
    | nil => simp at hx
    | cons a xs =>
      cases ys with
      | nil => simp at hy
      | cons b ys =>
        obtain rfl : a = x := by simpa using hx
        obtain rfl : b = y := by simpa using hy
        unfold lexB
        rw [if_neg hne]
  | succ k ih =>
    cases xs with
    | nil => simp at hx
    | cons a xs =>
      cases ys with
      | nil => simp at hy
      | cons b ys =>
        simp only [List.take_succ_cons, List.cons.injEq] at h
        obtain ⟨rfl, h⟩ := h
        unfold lexB
        rw [if_pos rfl]
        exact ih h (by simpa using hx) (by simpa using hy)
theorem bef_at {xs ys : List Int} {k : Nat} {x y : Int} (hl : xs.length = ys.length) (h : xs.take k = ys.take k) (hx : xs[k]? = some x) (hy : ys[k]? = some y) (hne : x ≠ y) : decide (x < y) = befB xs ys := by
  unfold befB; rw [if_pos hl, lexB_at h hx hy hne]
theorem bef_end {xs ys : List Int} {k : Nat} (hl : xs.length = ys.length) (hk : xs.length ≤ k) (h : xs.take k = ys.take k) : false = befB xs ys := by
  rw [List.take_of_length_le hk, List.take_of_length_le (by omega)] at h
  subst h; exact (befB_irr xs).symm
set_option maxHeartbeats 1000000 in
theorem f56_any (v u : Value) (xs ys : List Int) (w : World) (hx : Ints w v xs) (hy : Ints w u ys) :
    Calls Tryd.prog 56 #[v, u] w fun e w' => e = .returned (.bool (befB xs ys)) ∧ Below w.heap.size w w' := by
  obtain ⟨a, cap, rfl, h1, h2, _, h3⟩ := hx
  obtain ⟨a', cap', rfl, h1', h2', _, h3'⟩ := hy
  unfold maxLen at h2 h2'
  by_cases hl : xs.length = ys.length
  · have hd1 : ((xs.length : Int) != (ys.length : Int)) = false := by simp [hl]
    have hd2 : (xs.length != ys.length) = false := by simp [hl]
    have hl1 : xs.length ≤ ys.length := by omega
    have hl2 : ys.length ≤ xs.length := by omega
    have HLE := Lib.hid hl
    clear hl
    go_enter Tryd.func56, Tryd.ntmps56
    go_wp2
    go_loopw [5] (fun i wr => ∃ k : Nat, k ≤ xs.length ∧ i = .int .i64 k ∧ xs.take k = ys.take k ∧ Below w.heap.size w wr) (fun i _ => xs.length - (intOf i).toNat)
    case atStart => exact ⟨0, Nat.zero_le _, rfl, rfl, Below.refl _ _⟩
    case round =>
      obtain ⟨k, hk, rfl, ht, hb⟩ := hrel
      have HT := Lib.hid ht
      have HB := Lib.hid hb
      clear ht hb
      by_cases hlt : k < xs.length
      · obtain ⟨x, hx⟩ := get_some xs k hlt
        obtain ⟨y, hy⟩ := get_some ys k (by omega)
        obtain ⟨b, o, rfl, hc⟩ := h3 (by rintro rfl; simp at hlt)
        obtain ⟨b', o', rfl, hc'⟩ := h3' (by rintro rfl; simp at hy)
        have c0 := keeps_of_below HB.out _ _ (hc k x hx)
        have c0' := keeps_of_below HB.out _ _ (hc' k y hy)
        have HX := Lib.hid hx
        have HY := Lib.hid hy
        have i0 : (0 : Int) ≤ (k : Int) := by omega
        have i1 : (k : Int) < (xs.length : Int) := by omega
        have i2 : (k : Int) < (ys.length : Int) := by omega
        clear hx hy hc hc' h3 h3'
        go_wp2_with fail
        go_quiet (fail)
        by_cases hxy : x = y
        · subst hxy
          have hd : (x != x) = false := by simp
          go_wp2_with fail
          go_roundw
          case rel => exact ⟨k + 1, by omega, by go_num, take_add _ _ _ x HT.out HX.out HY.out, below_drewN HB.out _⟩
          case measure => simp [intOf]; omega
        · have hd : (x != y) = true := by simp [hxy]
          have HN := Lib.hid hxy
          clear hxy
          go_wp2_with fail
          go_quiet (fail)
          go_wp2_with fail
          go_ret
          exact ⟨ret_bool (bef_at HLE.out HT.out HX.out HY.out HN.out), below_drewN (below_drewN HB.out _) _⟩
      · go_wp2
        go_ret
        exact ⟨ret_bool (bef_end HLE.out (by omega) HT.out), HB.out⟩
  · have hd1 : ((xs.length : Int) != (ys.length : Int)) = true := by simp; omega
    have hd2 : (xs.length != ys.length) = true := by simp [hl]
    have HL := Lib.hid hl
    clear hl
    go_enter Tryd.func56, Tryd.ntmps56
    go_wp2
    go_ret
    exact ⟨ret_bool (by unfold befB; rw [if_neg HL.out]), Below.refl _ _⟩

theorem tw_split (x : Int) : ∀ l : List Int, ∃ n, n ≤ l.length ∧ l.takeWhile (fun y => decide (y ≤ x)) = l.take n ∧ l.dropWhile (fun y => decide (y ≤ x)) = l.drop n ∧ (∀ i y, i < n → l[i]? = some y → y ≤ x) ∧ ∀ y, l[n]? = some y → x < y
  | [] => ⟨0, Nat.le_refl _, rfl, rfl, fun i y h => absurd h (by omega), fun y h => by simp at h⟩
  | a :: l => by
    by_cases h : a ≤ x
    · obtain ⟨n, h1, h2, h3, h4, h5⟩ := tw_split x l
      refine ⟨n + 1, by simp; omega, by simp [h, h2], by simp [h, h3], fun i y hi hy => ?_, fun y hy => h5 y (by simpa using hy)⟩
      cases i with
      | zero => obtain rfl : a = y := by simpa using hy
                exact h
      | succ i => exact h4 i y (by omega) (by simpa using hy)
    · refine ⟨0, Nat.zero_le _, by simp [h], by simp [h], fun i y hi => absurd hi (by omega), fun y hy => ?_⟩
      obtain rfl : a = y := by simpa using hy
      omega
def MorePost (op : Int) (t : Nat) (l : List Int) (w : World) (e : Ending) (w' : World) : Prop := ∃ r, e = .returned r ∧ Ints w' r (insN op t l) ∧ Below w.heap.size w w'
set_option maxRecDepth 100000 in
set_option maxHeartbeats 4000000 in
theorem f57_any (v : Value) (l : List Int) (op : Int) (t : Nat) (w : World) (hv : Ints w v l) (hl : l.length ≤ 1000) (ht : t ≤ 1000) (ho : I64 op) :
    Calls Tryd.prog 57 #[v, .int .i64 op, .int .i64 t] w (MorePost op t l w) := by
  have HV := Lib.hid hv
  obtain ⟨a, cap, rfl, h1, h2, h3, h4⟩ := hv
  unfold maxLen at h2
  obtain ⟨n, hn, e1, e2, hle, hgt⟩ := tw_split op l
  have hins : insN op t l = l.take n ++ List.replicate t op ++ l.drop n := by unfold insN; rw [e1, e2]
  have HINS := Lib.hid hins
  have HLE := Lib.hid hle
  have HGT := Lib.hid hgt
  have H4 := Lib.hid h4
  have HO := Lib.hid ho
  clear h3 h4 e1 e2 hins hle hgt ho
  go_enter Tryd.func57, Tryd.ntmps57
  go_wp2_with fail
  go_loopw [7, 8] (fun o7 i8 wr => ∃ k : Nat, k ≤ n ∧ i8 = .int .i64 k ∧ wr.ownsRow w.heap.size 3 1 o7 k ((l.take k).map (Value.int .i64)) ∧ Below w.heap.size w wr) (fun _ i8 _ => l.length - (intOf i8).toNat)
  case atStart => exact ⟨0, Nat.zero_le _, rfl, World.ownsRow_nil _ _ _ _, Below.refl _ _⟩
  case round =>
    obtain ⟨k, hk, rfl, hown, hb⟩ := hrel
    have HOWN := Lib.hid hown
    have HB := Lib.hid hb
    obtain ⟨oa, oc, rfl⟩ := own_slice hown
    clear hown hb
    by_cases hkn : k < n
    · obtain ⟨x, hx⟩ := get_some l k (by omega)
      have hxo := HLE.out k x hkn hx
      obtain ⟨b, o, rfl, hc⟩ := H4.out (by rintro rfl; simp at hx)
      have c0 := keeps_of_below HB.out _ _ (hc k x hx)
      have HX := Lib.hid hx
      have i0 : (0 : Int) ≤ (k : Int) := by omega
      have i1 : (k : Int) < (l.length : Int) := by omega
      clear hx hc
      go_wp2_with (at_builtin; refine wpList_appI rfl (.tmp 25) (.tmp 30) rfl w.heap.size _ _ _ rfl (HOWN.out.alloc _) wr.heap.size (.int .i64 x) rfl (cell_one _ _ _) rfl (by omega) (Nat.le_trans HB.out.size (le_alloc _ _)) ?_; intro v2 w2 hown2 hg2; have HO2 := Lib.hid hown2; have HB2 : Hid (Below w.heap.size w w2) := ((HB.out.alloc HB.out.size _).grown hg2 (Nat.le_trans HB.out.size (le_alloc _ _)) (fun j e => (HOWN.out.lt j e).1)); clear hown2 hg2)
      exact ⟨⟨k + 1, by omega, by go_num, by rw [List.take_add_one, HX.out, List.map_append]; exact HO2.out, HB2.out⟩, by simp only [intOf]; omega⟩
    · obtain rfl : k = n := by omega
      rcases Nat.lt_or_ge k l.length with hlt | hge
      · obtain ⟨x, hx⟩ := get_some l k hlt
        have hxo := HGT.out x hx
        obtain ⟨b, o, rfl, hc⟩ := H4.out (by rintro rfl; simp at hx)
        have c0 := keeps_of_below HB.out _ _ (hc k x hx)
        have i0 : (0 : Int) ≤ (k : Int) := by omega
        have i1 : (k : Int) < (l.length : Int) := by omega
        clear hx hc
        go_wp2_with fail
        go_loopw [7, 10] (fun o7 i wr2 => ∃ j : Nat, j ≤ t ∧ i = .int .i64 j ∧ wr2.ownsRow w.heap.size 3 1 o7 (k + j) ((l.take k ++ List.replicate j op).map (Value.int .i64)) ∧ Below w.heap.size w wr2) (fun _ i _ => t - (intOf i).toNat)
        case atStart => exact ⟨0, Nat.zero_le _, rfl, by simpa using HOWN.out, HB.out⟩
        case round =>
          obtain ⟨j, hj, rfl, hown, hb⟩ := hrel
          have HOWNj := Lib.hid hown
          have HBj := Lib.hid hb
          obtain ⟨ja, jc, rfl⟩ := own_slice hown
          clear hown hb
          by_cases hjt : j < t
          · go_wp2_with (at_builtin; refine wpList_appI rfl (.tmp 39) (.tmp 41) rfl w.heap.size _ _ _ rfl (HOWNj.out.alloc _) _ (.int .i64 op) rfl (cell_one _ _ _) rfl (by omega) (Nat.le_trans HBj.out.size (le_alloc _ _)) ?_; intro v2 w2 hown2 hg2; have HO2 := Lib.hid hown2; have HB2 : Hid (Below w.heap.size w w2) := ((HBj.out.alloc HBj.out.size _).grown hg2 (Nat.le_trans HBj.out.size (le_alloc _ _)) (fun j e => (HOWNj.out.lt j e).1)); clear hown2 hg2)
            exact ⟨⟨j + 1, by omega, by go_num, by rw [← Nat.add_assoc, List.replicate_succ', ← List.append_assoc, List.map_append]; exact HO2.out, HB2.out⟩, by simp only [intOf]; omega⟩
          · obtain rfl : j = t := by omega
            have fin : ∀ (v3 : Value) (w3 : World), w3.ownsRow w.heap.size 3 1 v3 (k + j + (l.length - k)) ((l.take k ++ List.replicate j op).map (Value.int .i64) ++ (l.drop k).map (Value.int .i64)) → Below w.heap.size w w3 → MorePost op j l w (.returned v3) w3 := fun v3 w3 ho hb => by
              refine ⟨v3, rfl, ints_own (xs := insN op j l) (n := k + j + (l.length - k)) (base := w.heap.size) ?_ ?_, hb⟩
              · rw [HINS.out, List.map_append]; exact ho
              · intro y hy
                rcases insN_mem _ _ _ _ hy with rfl | hy
                · exact HO.out
                · exact HV.out.i64 y hy
            have FIN := Lib.hid fin
            clear fin
            have hd := HV.out.drop (some ⟨b, o, none⟩) k hn
            rw [Option.map_some, Addr.add_mid] at hd
            have HD := Lib.hid hd
            have hck' : (cap == k) = false := by simp; omega
            clear hd
            go_wp2_with (at_builtin; refine wpList_appL rfl (.tmp 43) (.tmp 46) rfl w.heap.size _ _ _ rfl HOWNj.out (l.drop k) _ rfl (HD.out.below HBj.out) (by rw [List.length_drop]; omega) HBj.out.size ?_; intro v3 w3 hown3 hg3 _; rw [List.length_drop] at hown3; have HO3 := Lib.hid (FIN.out v3 w3 hown3 (HBj.out.grown hg3 HBj.out.size (fun i e => (HOWNj.out.lt i e).1))); clear hown3 hg3)
            all_goals (go_ret; exact HO3.out)
      · go_wp2_with fail
        go_loopw [7, 10] (fun o7 i wr2 => ∃ j : Nat, j ≤ t ∧ i = .int .i64 j ∧ wr2.ownsRow w.heap.size 3 1 o7 (k + j) ((l.take k ++ List.replicate j op).map (Value.int .i64)) ∧ Below w.heap.size w wr2) (fun _ i _ => t - (intOf i).toNat)
        case atStart => exact ⟨0, Nat.zero_le _, rfl, by simpa using HOWN.out, HB.out⟩
        case round =>
          obtain ⟨j, hj, rfl, hown, hb⟩ := hrel
          have HOWNj := Lib.hid hown
          have HBj := Lib.hid hb
          obtain ⟨ja, jc, rfl⟩ := own_slice hown
          clear hown hb
          by_cases hjt : j < t
          · go_wp2_with (at_builtin; refine wpList_appI rfl (.tmp 39) (.tmp 41) rfl w.heap.size _ _ _ rfl (HOWNj.out.alloc _) _ (.int .i64 op) rfl (cell_one _ _ _) rfl (by omega) (Nat.le_trans HBj.out.size (le_alloc _ _)) ?_; intro v2 w2 hown2 hg2; have HO2 := Lib.hid hown2; have HB2 : Hid (Below w.heap.size w w2) := ((HBj.out.alloc HBj.out.size _).grown hg2 (Nat.le_trans HBj.out.size (le_alloc _ _)) (fun j e => (HOWNj.out.lt j e).1)); clear hown2 hg2)
            exact ⟨⟨j + 1, by omega, by go_num, by rw [← Nat.add_assoc, List.replicate_succ', ← List.append_assoc, List.map_append]; exact HO2.out, HB2.out⟩, by simp only [intOf]; omega⟩
          · obtain rfl : j = t := by omega
            have fin : ∀ (v3 : Value) (w3 : World), w3.ownsRow w.heap.size 3 1 v3 (k + j + (l.length - k)) ((l.take k ++ List.replicate j op).map (Value.int .i64) ++ (l.drop k).map (Value.int .i64)) → Below w.heap.size w w3 → MorePost op j l w (.returned v3) w3 := fun v3 w3 ho hb => by
              refine ⟨v3, rfl, ints_own (xs := insN op j l) (n := k + j + (l.length - k)) (base := w.heap.size) ?_ ?_, hb⟩
              · rw [HINS.out, List.map_append]; exact ho
              · intro y hy
                rcases insN_mem _ _ _ _ hy with rfl | hy
                · exact HO.out
                · exact HV.out.i64 y hy
            have FIN := Lib.hid fin
            clear fin
            have hd : ∀ (W : World) (z : Option Addr) (c : Nat), c ≤ maxLen → Ints W (.slice z 0 c) (l.drop k) := fun W z c hc => by
              rw [List.drop_of_length_le hge]
              exact ⟨z, c, rfl, Nat.zero_le _, hc, by simp, by simp⟩
            have HD := Lib.hid hd
            clear hd
            go_wp2_with (at_builtin; refine wpList_appL rfl (.tmp 43) (.tmp 46) rfl w.heap.size _ _ _ rfl HOWNj.out (l.drop k) _ rfl (HD.out wr _ _ (by unfold maxLen; omega)) (by rw [List.length_drop]; omega) HBj.out.size ?_; intro v3 w3 hown3 hg3 _; rw [List.length_drop] at hown3; have HO3 := Lib.hid (FIN.out v3 w3 hown3 (HBj.out.grown hg3 HBj.out.size (fun i e => (HOWNj.out.lt i e).1))); clear hown3 hg3)
            all_goals (go_ret; exact HO3.out)

def betO (a b : Option (List Int)) : Option (List Int) :=
  match a, b with
  | none, b => b
  | some m, none => some m
  | some m, some n => if befB n m then some n else some m
theorem betO_some (a : Option (List Int)) (n : List Int) : betO a (some n) = better a n := by
  cases a <;> rfl
def BetPost (o : Option (List Int)) (w : World) (e : Ending) (w' : World) : Prop := ∃ r, e = .returned (.agg #[.bool o.isSome, r]) ∧ Ints w' r (o.getD []) ∧ Below w.heap.size w w'
theorem ints_slice {w : World} {v : Value} {l : List Int} (h : Ints w v l) : ∃ a c, v = .slice a l.length c := by
  obtain ⟨a, c, e, _⟩ := h
  exact ⟨a, c, e⟩
set_option maxRecDepth 100000 in
set_option maxHeartbeats 4000000 in
theorem f39_any (a b : Option (List Int)) (u1 u2 : Value) (w : World) (h1 : Ints w u1 (a.getD [])) (h2 : Ints w u2 (b.getD [])) :
    Calls Tryd.prog 39 #[.agg #[.bool a.isSome, u1], .agg #[.bool b.isSome, u2]] w (BetPost (betO a b) w) := by
  have H1 := Lib.hid h1
  have H2 := Lib.hid h2
  obtain ⟨a1, c1, rfl⟩ := ints_slice h1
  obtain ⟨a2, c2, rfl⟩ := ints_slice h2
  clear h1 h2
  cases a with
  | none =>
    simp only [Option.getD_none, List.length_nil, Option.isSome_none] at H1 ⊢
    have fin : ∀ w', Below w.heap.size w w' → BetPost (betO none b) w (.returned (.agg #[.bool b.isSome, .slice a2 (b.getD []).length c2])) w' := fun w' hb => ⟨_, rfl, H2.out.below hb, hb⟩
    have FIN := Lib.hid fin
    clear fin
    go_enter Tryd.func39, Tryd.ntmps39
    go_wp2_with fail
    refine bodyPost_ret (v := .agg #[.bool b.isSome, .slice a2 (b.getD []).length c2]) ?_ rfl (FIN.out _ ((((Below.refl _ _).alloc (Nat.le_refl _) _).alloc (by simp) _).alloc (by simp; omega) _))
    simp [results, Tryd.results39, go_sem]
  | some m =>
    cases b with
    | none =>
      simp only [Option.getD_none, Option.getD_some, List.length_nil, Option.isSome_none, Option.isSome_some] at H1 H2 ⊢
      have fin : ∀ w', Below w.heap.size w w' → BetPost (betO (some m) none) w (.returned (.agg #[.bool true, .slice a1 m.length c1])) w' := fun w' hb => ⟨_, rfl, H1.out.below hb, hb⟩
      have FIN := Lib.hid fin
      clear fin
      go_enter Tryd.func39, Tryd.ntmps39
      go_wp2_with fail
      refine bodyPost_ret (v := .agg #[.bool true, .slice a1 m.length c1]) ?_ rfl (FIN.out _ ((((Below.refl _ _).alloc (Nat.le_refl _) _).alloc (by simp) _).alloc (by simp; omega) _))
      simp [results, Tryd.results39, go_sem]
    | some n =>
      simp only [Option.getD_some, Option.isSome_some] at H1 H2 ⊢
      have hbef := fun W h1 h2 => f56_any (.slice a2 n.length c2) (.slice a1 m.length c1) n m W h1 h2
      have b3 : Below w.heap.size w (((w.alloc (Obj.cells #[Value.bool true, Value.slice a1 m.length c1] 75)).alloc (Obj.cells #[Value.bool true, Value.slice a2 n.length c2] 75)).alloc (Obj.cells #[Value.bool false, Value.slice none 0 0] 75)) :=
        (((Below.refl _ _).alloc (Nat.le_refl _) _).alloc (by simp) _).alloc (by simp; omega) _
      cases hbf : befB n m with
      | true =>
        have he : betO (some m) (some n) = some n := by simp [betO, hbf]
        rw [he]
        rw [hbf] at hbef
        have HBEF := Lib.hid hbef
        have B3 := Lib.hid b3
        clear hbef hbf he b3
        go_enter Tryd.func39, Tryd.ntmps39
        go_wp2_with fail
        refine (HBEF.out _ (H2.out.below B3.out) (H1.out.below B3.out)).mono ?_
        rintro e w5 ⟨rfl, hb5⟩
        have k0 : w5.cell? ⟨w.heap.size + 1, 0, none⟩ = some (.bool true) := keeps_of_below hb5 _ _ (by go_simp)
        have k1 : w5.cell? ⟨w.heap.size + 1, 1, none⟩ = some (.slice a2 n.length c2) := keeps_of_below hb5 _ _ (by go_simp)
        have hd : w5.heap[w.heap.size + 1 + 1]? = some (.cells #[.bool false, .slice none 0 0] 75 (0, 0)) := by
          refine (hb5.block _ (by simp)).trans ?_
          rw [show w.heap.size + 1 + 1 = ((w.alloc (Obj.cells #[Value.bool true, Value.slice a1 m.length c1] 75)).alloc (Obj.cells #[Value.bool true, Value.slice a2 n.length c2] 75)).heap.size by simp]
          exact World.alloc_heap_new _ _
        have d0 : w5.cell? ⟨w.heap.size + 1 + 1, 0, none⟩ = some (.bool false) := (cell_of_row w5 _ 0 _ _ _ hd).trans rfl
        have d1 : w5.cell? ⟨w.heap.size + 1 + 1, 1, none⟩ = some (.slice none 0 0) := (cell_of_row w5 _ 1 _ _ _ hd).trans rfl
        have f0 : w5.frozen? ⟨w.heap.size + 1 + 1, 0, none⟩ = false := frozen_of_row w5 _ 0 _ _ hd
        have f1 : w5.frozen? ⟨w.heap.size + 1 + 1, 1, none⟩ = false := frozen_of_row w5 _ 1 _ _ hd
        have B5 := Lib.hid (B3.out.trans (hb5.mono B3.out.size))
        clear hb5 hd
        go_wp2_with fail
        have hbf : Below w.heap.size w ((w5.setCell ⟨w.heap.size + 1 + 1, 0, none⟩ (.bool true)).setCell ⟨w.heap.size + 1 + 1, 1, none⟩ (.slice a2 n.length c2)) := (B5.out.setCell (p := ⟨w.heap.size + 1 + 1, 0, none⟩) (by simp; omega) _).setCell (p := ⟨w.heap.size + 1 + 1, 1, none⟩) (by simp; omega) _
        refine bodyPost_ret (v := .agg #[.bool true, .slice a2 n.length c2]) ?_ rfl ⟨_, rfl, H2.out.below hbf, hbf⟩
        simp [results, Tryd.results39, go_sem, *]
      | false =>
        have he : betO (some m) (some n) = some m := by simp [betO, hbf]
        rw [he]
        rw [hbf] at hbef
        have HBEF := Lib.hid hbef
        have B3 := Lib.hid b3
        clear hbef hbf he b3
        go_enter Tryd.func39, Tryd.ntmps39
        go_wp2_with fail
        refine (HBEF.out _ (H2.out.below B3.out) (H1.out.below B3.out)).mono ?_
        rintro e w5 ⟨rfl, hb5⟩
        have k0 : w5.cell? ⟨w.heap.size, 0, none⟩ = some (.bool true) := keeps_of_below hb5 _ _ (by go_simp)
        have k1 : w5.cell? ⟨w.heap.size, 1, none⟩ = some (.slice a1 m.length c1) := keeps_of_below hb5 _ _ (by go_simp)
        have hd : w5.heap[w.heap.size + 1 + 1]? = some (.cells #[.bool false, .slice none 0 0] 75 (0, 0)) := by
          refine (hb5.block _ (by simp)).trans ?_
          rw [show w.heap.size + 1 + 1 = ((w.alloc (Obj.cells #[Value.bool true, Value.slice a1 m.length c1] 75)).alloc (Obj.cells #[Value.bool true, Value.slice a2 n.length c2] 75)).heap.size by simp]
          exact World.alloc_heap_new _ _
        have d0 : w5.cell? ⟨w.heap.size + 1 + 1, 0, none⟩ = some (.bool false) := (cell_of_row w5 _ 0 _ _ _ hd).trans rfl
        have d1 : w5.cell? ⟨w.heap.size + 1 + 1, 1, none⟩ = some (.slice none 0 0) := (cell_of_row w5 _ 1 _ _ _ hd).trans rfl
        have f0 : w5.frozen? ⟨w.heap.size + 1 + 1, 0, none⟩ = false := frozen_of_row w5 _ 0 _ _ hd
        have f1 : w5.frozen? ⟨w.heap.size + 1 + 1, 1, none⟩ = false := frozen_of_row w5 _ 1 _ _ hd
        have B5 := Lib.hid (B3.out.trans (hb5.mono B3.out.size))
        clear hb5 hd
        go_wp2_with fail
        have hbf : Below w.heap.size w ((w5.setCell ⟨w.heap.size + 1 + 1, 0, none⟩ (.bool true)).setCell ⟨w.heap.size + 1 + 1, 1, none⟩ (.slice a1 m.length c1)) := (B5.out.setCell (p := ⟨w.heap.size + 1 + 1, 0, none⟩) (by simp; omega) _).setCell (p := ⟨w.heap.size + 1 + 1, 1, none⟩) (by simp; omega) _
        refine bodyPost_ret (v := .agg #[.bool true, .slice a1 m.length c1]) ?_ rfl ⟨_, rfl, H1.out.below hbf, hbf⟩
        simp [results, Tryd.results39, go_sem, *]
end Go.Proofs.YteilaajjpjhijaaDoor
namespace Go.Proofs.YteilaajjpjhijaaDoor
open Go.RowKit PSpec

abbrev FT := Nat → Option (List Int)
/-- the table before the first item -/
def F0 : FT := fun a => if a = 0 then some [] else none
def HF (its : List It) (ch : List Int) (k : Nat) (F : FT) : Prop := ∀ a, IsBest (fun y => a ≤ ch.length ∧ y ∈ divs (its.take k) (ch.take a)) (F a)
theorem hf_zero (its : List It) (ch : List Int) : HF its ch 0 F0 := by
  intro a
  unfold F0
  by_cases h : a = 0
  · subst h
    rw [if_pos rfl]
    exact ⟨⟨Nat.zero_le _, by simp [divs]⟩, fun y hy => by
      have := ((mem_divs_nil _ y).1 (by simpa using hy.2)).2
      rw [this]; rfl⟩
  · rw [if_neg h]
    rintro y ⟨h1, h2⟩
    have := ((mem_divs_nil _ y).1 (by simpa using h2)).1
    have h3 := congrArg List.length this
    rw [List.length_take, List.length_nil] at h3; omega
/-- what the first places of the table give to the next one -/
def MF (x : It) (ch : List Int) (F : FT) (i : Nat) (a : Nat) (y : List Int) : Prop := ∃ i' m t, i' < i ∧ F i' = some m ∧ t ≤ maxT x (ch.drop i') ∧ a = i' + t ∧ y = insN x.1 (x.2.1 - t).toNat m
def HM (x : It) (ch : List Int) (F : FT) (i : Nat) (G : FT) : Prop := ∀ a, IsBest (MF x ch F i a) (G a)
def HT (x : It) (ch : List Int) (F : FT) (i T : Nat) (m : List Int) (G : FT) : Prop := ∀ a, IsBest (fun y => MF x ch F i a y ∨ ∃ t, t < T ∧ a = i + t ∧ y = insN x.1 (x.2.1 - t).toNat m) (G a)
theorem hm_zero (x : It) (ch : List Int) (F : FT) : HM x ch F 0 (fun _ => none) := fun a y ⟨i', _, _, h, _⟩ => absurd h (by omega)
theorem hm_skip {x : It} {ch : List Int} {F G : FT} {i : Nat} (h : HM x ch F i G) (hn : F i = none) : HM x ch F (i + 1) G := fun a => (h a).congr fun y => by
  constructor
  · rintro ⟨i', m, t, h1, h2⟩
    exact ⟨i', m, t, by omega, h2⟩
  · rintro ⟨i', m, t, h1, h2, h3⟩
    by_cases e : i' = i
    · subst e; rw [hn] at h2; cases h2
    · exact ⟨i', m, t, by omega, h2, h3⟩
theorem ht_zero {x : It} {ch : List Int} {F G : FT} {i : Nat} (m : List Int) (h : HM x ch F i G) : HT x ch F i 0 m G := fun a => (h a).congr fun y => by simp
def updF (F : FT) (i : Nat) (o : Option (List Int)) : FT := fun a => if a = i then o else F a
theorem ht_step {x : It} {ch : List Int} {F G : FT} {i T : Nat} {m : List Int} (h : HT x ch F i T m G) : HT x ch F i (T + 1) m (updF G (i + T) (better (G (i + T)) (insN x.1 (x.2.1 - T).toNat m))) := fun a => by
  unfold updF
  by_cases e : a = i + T
  · subst e
    rw [if_pos rfl]
    refine ((h (i + T)).add _).congr fun y => ?_
    constructor
    · rintro ((h | ⟨t, ht, h⟩) | h)
      · exact .inl h
      · exact .inr ⟨t, by omega, h⟩
      · exact .inr ⟨T, by omega, rfl, h⟩
    · rintro (h | ⟨t, ht, h1, h2⟩)
      · exact .inl (.inl h)
      · by_cases e : t = T
        · subst e; exact .inr h2
        · exact .inl (.inr ⟨t, by omega, h1, h2⟩)
  · rw [if_neg e]
    refine (h a).congr fun y => ?_
    constructor
    · rintro (h | ⟨t, ht, h⟩)
      · exact .inl h
      · exact .inr ⟨t, by omega, h⟩
    · rintro (h | ⟨t, ht, h1, h2⟩)
      · exact .inl h
      · exact .inr ⟨t, by omega, h1, h2⟩
theorem ht_end {x : It} {ch : List Int} {F G : FT} {i T : Nat} {m : List Int} (hm : F i = some m) (h : HT x ch F i T m G) (hT : T = maxT x (ch.drop i) + 1) : HM x ch F (i + 1) G := fun a => (h a).congr fun y => by
  constructor
  · rintro (⟨i', m', t, h1, h2⟩ | ⟨t, ht, h1, h2⟩)
    · exact ⟨i', m', t, by omega, h2⟩
    · exact ⟨i, m, t, by omega, hm, by omega, h1, h2⟩
  · rintro ⟨i', m', t, h1, h2, h3, h4, h5⟩
    by_cases e : i' = i
    · subst e
      rw [hm] at h2; cases h2
      exact .inr ⟨t, by omega, h4, h5⟩
    · exact .inl ⟨i', m', t, by omega, h2, h3, h4, h5⟩
theorem hf_step {its : List It} {ch : List Int} (hB : its.all itB = true) {k : Nat} {x : It} (hx : its[k]? = some x) {F G : FT} (h0 : HF its ch k F) (hm : HM x ch F (ch.length + 1) G) : HF its ch (k + 1) G := by
  have hxB : itB x = true := List.all_eq_true.1 hB x (List.mem_of_getElem? hx)
  have hop : opB x.1 = true := by simp only [itB, Bool.and_eq_true] at hxB; exact hxB.1.1.1.1
  have htk : its.take (k + 1) = its.take k ++ [x] := by rw [List.take_add_one, hx]; rfl
  have hBk : (its.take k).all itB = true := List.all_eq_true.2 fun y hy => List.all_eq_true.1 hB y (List.mem_of_mem_take hy)
  have snd : ∀ (i : Nat) (m : List Int) (t : Nat), F i = some m → t ≤ maxT x (ch.drop i) → i + t ≤ ch.length ∧ insN x.1 (x.2.1 - t).toNat m ∈ divs (its.take (k + 1)) (ch.take (i + t)) := by
    intro i m t hF ht
    have hb := h0 i
    rw [hF] at hb
    obtain ⟨⟨hle, hd⟩, _⟩ := hb
    have h3 := maxT_len x (ch.drop i)
    simp at h3
    obtain ⟨h1, r, hr⟩ := (maxT_iff _ _ _).1 ht
    refine ⟨by omega, ?_⟩
    rw [htk, mem_divs_snoc]
    refine ⟨t, ch.take i, m, h1, ?_, hd, rfl⟩
    rw [List.take_add, hr, List.take_left' (by simp)]
  intro a
  refine (hm a).enough ?_ ?_
  · rintro y ⟨i, m, t, _, hF, ht, rfl, rfl⟩
    exact snd i m t hF ht
  · rintro y ⟨hle, hy⟩
    rw [htk, mem_divs_snoc] at hy
    obtain ⟨t, r, m0, h1, hr, hm0, rfl⟩ := hy
    have hlen := congrArg List.length hr
    simp at hlen
    have hrt : r = ch.take r.length := by
      have := congrArg (List.take r.length) hr
      rw [List.take_left' rfl, List.take_take, Nat.min_eq_left (by omega)] at this
      exact this.symm
    rw [hrt] at hm0
    have hb := h0 r.length
    cases hlk : F r.length with
    | none => rw [hlk] at hb; exact absurd ⟨by omega, hm0⟩ (hb m0)
    | some m1 =>
      rw [hlk] at hb
      refine ⟨_, ⟨r.length, m1, t, by omega, hlk, ?_, by omega, rfl⟩, ?_⟩
      · refine (maxT_iff _ _ _).2 ⟨h1, ch.drop a, ?_⟩
        have : ch.drop r.length = (ch.take a).drop r.length ++ ch.drop a := by
          rw [List.drop_take, show a - r.length = t by omega]
          have e := List.take_append_drop t (ch.drop r.length)
          rw [List.drop_drop, show r.length + t = a by omega] at e
          exact e.symm
        rw [this, hr, List.drop_left' rfl]
      · have w1 := divs_wf _ _ _ hBk hb.1.2
        have w0 := divs_wf _ _ _ hBk hm0
        rw [bef_insN _ _ w0 w1 hop]
        exact hb.2 m0 ⟨by omega, hm0⟩
theorem hf_best {its : List It} {ch : List Int} {F : FT} (h : HF its ch its.length F) : F ch.length = best (divs its ch) := by
  have := h ch.length
  simp only [List.take_length] at this
  exact (this.congr fun y => by simp).uniq (best_is (divs its ch))
/-- a place's missing operations are short -/
theorem hf_wf {its : List It} {ch : List Int} (hB : its.all itB = true) {k : Nat} {F : FT} (h : HF its ch k F) {a : Nat} {m : List Int} (hm : F a = some m) : a ≤ ch.length ∧ m.length ≤ 9 * its.length := by
  have hb := h a
  rw [hm] at hb
  have hBk : (its.take k).all itB = true := List.all_eq_true.2 fun y hy => List.all_eq_true.1 hB y (List.mem_of_mem_take hy)
  have := (divs_wf _ _ _ hBk hb.1.2).len
  rw [List.length_take] at this
  exact ⟨hb.1.1, by omega⟩
/-- the test that stops the counting -/
theorem maxT_next {x : It} {ch : List Int} {i t : Nat} (h : t ≤ maxT x (ch.drop i)) : (t + 1 ≤ maxT x (ch.drop i)) ↔ (t + 1 ≤ x.2.2.toNat ∧ ch[i + t]? = some x.1) := by
  obtain ⟨h1, r, hr⟩ := (maxT_iff _ _ _).1 h
  rw [maxT_iff]
  have e : ch[i + t]? = r[0]? := by
    rw [← List.getElem?_drop, hr, List.getElem?_append_right (by simp)]
    simp
  rw [e]
  constructor
  · rintro ⟨h2, r', hr'⟩
    refine ⟨h2, ?_⟩
    rw [hr, List.replicate_succ', List.append_assoc] at hr'
    have := List.append_cancel_left hr'
    rw [this]; rfl
  · rintro ⟨h2, h3⟩
    refine ⟨h2, r.drop 1, ?_⟩
    rw [hr, List.replicate_succ', List.append_assoc]
    congr 1
    cases r with
    | nil => simp at h3
    | cons y r => obtain rfl : y = x.1 := by simpa using h3
                  rfl
end Go.Proofs.YteilaajjpjhijaaDoor
namespace Go.Proofs.YteilaajjpjhijaaDoor
open Go.RowKit PSpec
section
variable {P : Program} {ops : Array Oper} {Q : Exit → Act → World → Prop} {S : World → Prop}
inductive Tr where
  | done : Tr
  | light : Nat → Tr → Tr
  | one : Nat → Tr → Tr
  | two : Nat → Tr → Nat → Tr → Tr
def Tr.size : Tr → Nat
  | .done => 0
  | .light _ t => t.size + 1
  | .one _ t => t.size + 1
  | .two _ t _ _ => t.size + 1
def lights : List Nat → Tr → Tr
  | [], t => t
  | i :: l, t => .light i (lights l t)
def wpT (P : Program) (ops : Array Oper) (Q : Exit → Act → World → Prop) (S : World → Prop) (L : Nat) : Tr → Act → World → Prop
  | .done, a, w => Q .normal a w
  | .light i t, a, w => ∃ o v, ops[i]? = some o ∧ YieldsQ P ops S o v a ∧ wpT P ops Q S L t (a.put o.dst v) w
  | .one i t, a, w => wpOp P ops Q i (fun a' w' => (i = L ∨ S w') ∧ wpT P ops Q S L t a' w') a w
  | .two i t j u, a, w => wpOp P ops Q i (fun a' w' => S w' ∧ wpT P ops Q S L t a' w') a w ∧ wpOp P ops Q j (fun a' w' => S w' ∧ wpT P ops Q S L u a' w') a w
def okT (ops : Array Oper) (L : Nat) : Tr → Array Bool → Bool
  | .done, listed => (Region.ready .any ops listed).isEmpty
  | .light i t, listed => (Region.ready .any ops listed).contains i && Region.free .any ops listed i && okT ops L t (listed.setIfInBounds i true)
  | .one i t, listed => decide (Region.ready .any ops listed = [i]) && (!decide (i = L) || decide (t.size = 0)) && okT ops L t (listed.setIfInBounds i true)
  | .two i t j u, listed => decide (Region.ready .any ops listed = [i, j]) && decide (t.size = u.size) && okT ops L t (listed.setIfInBounds i true) && okT ops L u (listed.setIfInBounds j true)
theorem wpAnyR_of_wpT {L : Nat} (hL : lastB ops L = true) (hs : Region.noSelect ops = true) (hQ : ∀ c a d v w, Q (.panic c) (a.put d v) w → Q (.panic c) a w) :
    ∀ (t : Tr) (listed : Array Bool) (a : Act) (w : World), okT ops L t listed = true → ClosedL ops listed → (t.size = 0 ∨ S w) → wpT P ops Q S L t a w →
      wpAnyR P ops Q S L t.size listed a w := by
  intro t
  induction t with
  | done =>
    intro listed a w hok _ _ h
    simp only [okT, List.isEmpty_iff] at hok
    exact wpAnyR_done hok h 0
  | light i t ih =>
    intro listed a w hok hcl hS h
    simp only [okT, Bool.and_eq_true] at hok
    obtain ⟨o, v, hi, hy, h⟩ := h
    have hS := hS.resolve_left (by simp [Tr.size])
    exact wpAnyQ_take hL hi hs hok.1.2 hok.1.1 (fun c a w => hQ c a _ v w) hy hS hcl (ih _ _ _ hok.2 (hcl.set (by simpa using hok.1.1)) (.inr hS) h)
  | one i t ih =>
    intro listed a w hok hcl hS h
    simp only [okT, Bool.and_eq_true, decide_eq_true_eq] at hok
    obtain ⟨⟨h1, h2⟩, h3⟩ := hok
    refine wpAnyR_all h1 (by simp) ?_
    intro j hj
    obtain rfl : j = i := by simpa using hj
    exact wpOp_mono (fun a' w' h' => ⟨h'.1, ih _ _ _ h3 (hcl.set (by rw [h1]; simp)) (h'.1.imp (fun e => by rw [Bool.or_eq_true] at h2; rcases h2 with h2 | h2 <;> simp_all) id) h'.2⟩) h
  | two i t j u iht ihu =>
    intro listed a w hok hcl hS h
    simp only [okT, Bool.and_eq_true, decide_eq_true_eq] at hok
    obtain ⟨⟨⟨h1, h2⟩, h3⟩, h4⟩ := hok
    refine wpAnyR_all h1 (by simp) ?_
    intro k hk
    rcases List.mem_cons.1 hk with rfl | hk
    · exact wpOp_mono (fun a' w' h' => ⟨.inr h'.1, iht _ _ _ h3 (hcl.set (by rw [h1]; simp)) (.inr h'.1) h'.2⟩) h.1
    · obtain rfl : k = j := by simpa using hk
      refine wpOp_mono (fun a' w' h' => ⟨.inr h'.1, ?_⟩) h.2
      have := ihu _ _ _ h4 (hcl.set (by rw [h1]; simp)) (.inr h'.1) h'.2
      rw [h2]; exact this
theorem wp_region_tree {id : Nat} {a : Act} {w : World} (L : Nat) (t : Tr) (S : World → Prop) (hm : P.follows .mixedOrders = true) (hs : Region.noSelect ops = true)
    (hL : lastB ops L = true) (hn : t.size = ops.size) (hok : okT ops L t (Array.replicate ops.size false) = true)
    (hQ : ∀ c a d v w, Q (.panic c) (a.put d v) w → Q (.panic c) a w) (hS : S w.drew) (h : wpT P ops Q S L t a w.drew) : (Code.region id ops true).wp P Q a w :=
  wp_region_any hm (by rw [← hn]; rw [← hn] at hok; exact wpAny_of_R _ _ _ _ (wpAnyR_of_wpT hL hs hQ t _ a _ hok (ClosedL.start _) (.inr hS) h))
theorem wpT_done {L : Nat} {a : Act} {w : World} (h : Q .normal a w) : wpT P ops Q S L .done a w := h
theorem wpT_light {L i : Nat} {t : Tr} {a : Act} {w : World} (o : Oper) (hi : ops[i]? = some o) (hw : Region.wanted o (yielded ops a.tmps) = true) (v : Value)
    (hv : ∀ w, S w → (execOp a.eval o).run P w = .ok (.value v) w) (h : wpT P ops Q S L t (a.put o.dst v) w) : wpT P ops Q S L (.light i t) a w :=
  ⟨o, v, hi, .inl ⟨hw, fun w hS => .inl (hv w hS)⟩, h⟩
theorem wpT_heavy {L i : Nat} {t : Tr} {a : Act} {w : World} (o : Oper) (hi : ops[i]? = some o) (hw : Region.wanted o (yielded ops a.tmps) = true)
    (h : ∀ K' : Act → World → Prop, (∀ a w, (i = L ∨ S w) ∧ wpT P ops Q S L t a w → K' a w) → Oper.wp P o a w K' Q) : wpT P ops Q S L (.one i t) a w :=
  wpOp_step hi fun K' hK => by rw [if_pos hw]; exact h K' hK
theorem wpT_two {L i j : Nat} {t u : Tr} {a : Act} {w : World} (h1 : wpT P ops Q S L (.one i t) a w) (h2 : wpT P ops Q S L (.one j u) a w) (hi : i ≠ L) (hj : j ≠ L) : wpT P ops Q S L (.two i t j u) a w :=
  ⟨wpOp_mono (fun _ _ h => ⟨h.1.resolve_left hi, h.2⟩) h1, wpOp_mono (fun _ _ h => ⟨h.1.resolve_left hj, h.2⟩) h2⟩
theorem wpT_value {L i : Nat} {t : Tr} {a : Act} {w : World} (o : Oper) (hi : ops[i]? = some o) (hgd : o.guard = none) (v : Value) (w' : World)
    (hr : (execOp a.eval o).run P w = .ok (.value v) w') (h : (i = L ∨ S w') ∧ wpT P ops Q S L t (a.put o.dst v) w') : wpT P ops Q S L (.one i t) a w :=
  wpT_heavy o hi (by simp [Region.wanted, hgd]) fun K' hK => by
    unfold Oper.wp
    rw [hr]
    exact hK _ _ h
theorem wpT_skipH {L i : Nat} {t : Tr} {a : Act} {w : World} (o : Oper) (hi : ops[i]? = some o) (hgd : o.guard = none) (w' : World)
    (hr : (execOp a.eval o).run P w = .ok .skip w') (h : (i = L ∨ S w') ∧ wpT P ops Q S L t (a.put o.dst undef) w') : wpT P ops Q S L (.one i t) a w :=
  wpT_heavy o hi (by simp [Region.wanted, hgd]) fun K' hK => by
    unfold Oper.wp
    rw [hr]
    exact hK _ _ h
end

def stC (F : FT) (us : Nat → Value) (n : Nat) : List Value := (List.range n).flatMap fun i => [.bool (F i).isSome, us i]
theorem stC_succ (F : FT) (us : Nat → Value) (n : Nat) : stC F us (n + 1) = stC F us n ++ [.bool (F n).isSome, us n] := by
  simp [stC, List.range_succ]
theorem stC_len (F : FT) (us : Nat → Value) (n : Nat) : (stC F us n).length = n * 2 := by
  induction n with
  | zero => rfl
  | succ n ih => rw [stC_succ, List.length_append, ih]; simp; omega
theorem stC_get (F : FT) (us : Nat → Value) (n i : Nat) (h : i < n) : (stC F us n)[i * 2]? = some (.bool (F i).isSome) ∧ (stC F us n)[i * 2 + 1]? = some (us i) := by
  induction n with
  | zero => omega
  | succ n ih =>
    rw [stC_succ]
    by_cases e : i < n
    · rw [List.getElem?_append_left (by rw [stC_len]; omega), List.getElem?_append_left (by rw [stC_len]; omega)]
      exact ih e
    · obtain rfl : i = n := by omega
      rw [List.getElem?_append_right (by rw [stC_len]; exact Nat.le_refl _), List.getElem?_append_right (by rw [stC_len]; omega), stC_len, Nat.sub_self, show i * 2 + 1 - i * 2 = 1 by omega]
      exact ⟨rfl, rfl⟩
theorem stC_congr (F G : FT) (us vs : Nat → Value) (n : Nat) (h : ∀ i, i < n → (F i).isSome = (G i).isSome ∧ us i = vs i) : stC F us n = stC G vs n := by
  induction n with
  | zero => rfl
  | succ n ih => rw [stC_succ, stC_succ, ih fun i hi => h i (by omega), (h n (by omega)).1, (h n (by omega)).2]
theorem stC_set (F : FT) (us : Nat → Value) (n i : Nat) (h : i < n) (o : Option (List Int)) (u : Value) : ((stC F us n).set (i * 2) (.bool o.isSome)).set (i * 2 + 1) u = stC (updF F i o) (fun j => if j = i then u else us j) n := by
  induction n with
  | zero => omega
  | succ n ih =>
    rw [stC_succ, stC_succ]
    by_cases e : i < n
    · rw [List.set_append_left _ _ (by rw [stC_len]; omega), List.set_append_left _ _ (by rw [List.length_set, stC_len]; omega), ih e]
      have hne : ¬ n = i := by omega
      simp [updF, hne]
    · obtain rfl : i = n := by omega
      rw [List.set_append_right _ _ (by rw [stC_len]; exact Nat.le_refl _), List.set_append_right _ _ (by rw [stC_len]; omega), stC_len, Nat.sub_self, show i * 2 + 1 - i * 2 = 1 by omega]
      congr 1
      · exact stC_congr _ _ _ _ _ fun j hj => by
          have hne : ¬ j = i := by omega
          simp [updF, hne]
      · simp [updF]
theorem stC_noint (F : FT) (us : Nat → Value) (n : Nat) (hus : ∀ i, i < n → ∃ a k c, us i = .slice a k c) : ∀ z, Value.int .i64 z ∉ stC F us n := by
  intro z hz
  simp only [stC, List.mem_flatMap, List.mem_range] at hz
  obtain ⟨i, hi, hz⟩ := hz
  rcases List.mem_cons.1 hz with e | hz
  · cases e
  · obtain ⟨a, k, c, e⟩ := hus i hi
    have : Value.int .i64 z = us i := by simpa using hz
    rw [e] at this; cases this
/-- a list of integers lies outside a row that holds no integer -/
theorem ints_apart {W : World} {B g n : Nat} {xs : List Value} (ho : W.ownsRow B 75 2 (.slice (some ⟨g, 0, none⟩) n n) n xs) (hno : ∀ z, Value.int .i64 z ∉ xs) {u : Value} {m : List Int} (h : Ints W u m) {W' : World} (hg : W.grownBy W' (some g)) : Ints W' u m := by
  obtain ⟨a, c, rfl, h1, h2, h3, h4⟩ := h
  refine ⟨a, c, rfl, h1, h2, h3, fun hne => ?_⟩
  obtain ⟨b, o, e, hc⟩ := h4 hne
  refine ⟨b, o, e, fun i x hx => ?_⟩
  have hcx := hc i x hx
  have hbg : b ≠ g := fun e => by
    subst e
    rcases ho.2 with ⟨e, _⟩ | ⟨g', cap', cur, e, _, hgc, _, _, hsz, ht⟩
    · cases e
    · obtain ⟨rfl, rfl⟩ : b = g' ∧ n = cap' := by simpa using e
      rw [cell_of_row W b _ _ _ _ hgc] at hcx
      refine hno x ?_
      rw [← ht, List.take_of_length_le (by rw [Array.length_toList, hsz]; exact Nat.le_refl _)]
      have := List.mem_of_getElem? (l := cur.toList) (i := o + i) (by simpa using hcx)
      exact this
  have hb := World.block_lt_of_cell? W _ hcx
  rw [World.cell?_of_block (w := W) (hg.block b hb (by simpa using hbg))]
  exact hcx
def Sts (W : World) (B g n : Nat) (F : FT) : Prop := ∃ us : Nat → Value, W.ownsRow B 75 2 (.slice (some ⟨g, 0, none⟩) n n) n (stC F us n) ∧ ∀ i, i < n → Ints W (us i) ((F i).getD [])
theorem Sts.below {W W' : World} {B g n : Nat} {F : FT} (h : Sts W B g n F) (hb : Below W.heap.size W W') : Sts W' B g n F := by
  obtain ⟨us, h1, h2⟩ := h
  exact ⟨us, own_bel h1 hb, fun i hi => (h2 i hi).below hb⟩
/-- one table stays while another is written -/
theorem Sts.apart {W W' : World} {B g g' n : Nat} {F G : FT} (h : Sts W B g n F) (h' : Sts W B g' n G) (hne : g ≠ g') (hg : W.grownBy W' (some g')) : Sts W' B g n F := by
  obtain ⟨us, h1, h2⟩ := h
  obtain ⟨us', h1', h2'⟩ := h'
  refine ⟨us, grown_kept h1 hg fun j hj e => ?_, fun i hi => ints_apart h1' (stC_noint _ _ _ fun i hi => ?_) (h2 i hi) hg⟩
  · have : g = j := by simpa [Value.ownBlock] using hj
    have : j = g' := by simpa using e
    omega
  · obtain ⟨a, c, e⟩ := ints_slice (h2' i hi)
    exact ⟨a, _, c, e⟩
theorem Sts.ints {W W' : World} {B g n : Nat} {F : FT} (h : Sts W B g n F) (hg : W.grownBy W' (some g)) {u : Value} {m : List Int} (hu : Ints W u m) : Ints W' u m := by
  obtain ⟨us, h1, h2⟩ := h
  refine ints_apart h1 (stC_noint _ _ _ fun i hi => ?_) hu hg
  obtain ⟨a, c, e⟩ := ints_slice (h2 i hi)
  exact ⟨a, _, c, e⟩
theorem Sts.at {W : World} {B g n : Nat} {F : FT} (h : Sts W B g n F) {i : Nat} (hi : i < n) :
    W.cell? ⟨g, i * 2, none⟩ = some (.bool (F i).isSome) ∧ W.frozen? ⟨g, i * 2, none⟩ = false ∧ W.frozen? ⟨g, i * 2 + 1, none⟩ = false ∧ ∃ a c, W.cell? ⟨g, i * 2 + 1, none⟩ = some (.slice a ((F i).getD []).length c) ∧ Ints W (.slice a ((F i).getD []).length c) ((F i).getD []) := by
  obtain ⟨us, h1, h2⟩ := h
  obtain ⟨e0, e1⟩ := stC_get F us n i hi
  have hc := h1.cells (g := g) rfl
  have c0 := hc _ _ e0
  have c1 := hc _ _ e1
  rw [Addr.add_mid, Nat.zero_add] at c0 c1
  obtain ⟨a, c, e⟩ := ints_slice (h2 i hi)
  have hf : ∀ j, W.frozen? ⟨g, j, none⟩ = false := fun j => by
    rcases h1.2 with ⟨e, _⟩ | ⟨g', cap', cur, e, _, hg, _⟩
    · cases e
    · obtain ⟨rfl, _⟩ : g = g' ∧ n = cap' := by simpa using e
      exact frozen_of_row W g j _ _ hg
  have h3 := h2 i hi
  rw [e] at c1 h3
  exact ⟨c0, hf _, hf _, a, c, c1, h3⟩
theorem Sts.put {W : World} {B g n : Nat} {F : FT} (h : Sts W B g n F) {i : Nat} (hi : i < n) (o : Option (List Int)) {u : Value} (hu : Ints W u (o.getD [])) :
    Sts ((W.setCell ⟨g, i * 2, none⟩ (.bool o.isSome)).setCell ⟨g, i * 2 + 1, none⟩ u) B g n (updF F i o) := by
  have hg : W.grownBy ((W.setCell ⟨g, i * 2, none⟩ (.bool o.isSome)).setCell ⟨g, i * 2 + 1, none⟩ u) (some g) := grown_set (grown_set (grownBel (Below.refl _ _) _) _ _) _ _
  have hi' := fun {u m} (hu : Ints W u m) => Sts.ints h hg hu
  obtain ⟨us, h1, h2⟩ := h
  refine ⟨fun j => if j = i then u else us j, ?_, fun j hj => ?_⟩
  · rw [← stC_set F us n i hi o u]
    exact own_set (own_set h1 (i * 2) _ (by rw [stC_len]; omega)) (i * 2 + 1) u (by rw [List.length_set, stC_len]; omega)
  · by_cases e : j = i
    · subst e
      simp only [updF, if_true]
      exact hi' hu
    · simp only [updF, if_neg e]
      exact hi' (h2 j hj)
theorem Sts.lt {W : World} {B g n : Nat} {F : FT} (h : Sts W B g n F) : B ≤ g ∧ g < W.heap.size := by
  obtain ⟨us, h1, _⟩ := h
  exact h1.lt g rfl
/-- a table that make has just laid -/
theorem Sts.new {W : World} {B g n : Nat} (h : W.ownsRow B 75 2 (.slice (some ⟨g, 0, none⟩) n n) n (madeCells (Value.agg #[.bool false, .slice none 0 0]).cells (n * 2)).toList) : Sts W B g n (fun _ => none) := by
  refine ⟨fun _ => .slice none 0 0, ?_, fun i hi => ints_nil W⟩
  have e : (madeCells (Value.agg #[.bool false, .slice none 0 0]).cells (n * 2)).toList = stC (fun _ => none) (fun _ => .slice none 0 0) n := by
    refine List.ext_getElem? fun j => ?_
    by_cases hj : j < n * 2
    · have hm : (madeCells (Value.agg #[.bool false, .slice none 0 0]).cells (n * 2)).toList[j]? = some (if j % 2 = 0 then .bool false else .slice none 0 0) := by
        rw [Array.getElem?_toList, Array.getElem?_eq_getElem (by rw [size_madeCells]; exact hj)]
        unfold madeCells
        rw [Array.getElem_map, Array.getElem_range]
        rcases Nat.mod_two_eq_zero_or_one j with h | h
        · show some (#[Value.bool false, Value.slice none 0 0][j % 2]!) = _
          rw [h]; rfl
        · show some (#[Value.bool false, Value.slice none 0 0][j % 2]!) = _
          rw [h]; rfl
      obtain ⟨e0, e1⟩ := stC_get (fun _ => none) (fun _ => .slice none 0 0) n (j / 2) (by omega)
      rw [hm]
      rcases Nat.mod_two_eq_zero_or_one j with h | h
      · rw [show j / 2 * 2 = j by omega] at e0
        rw [e0, if_pos h]; rfl
      · rw [show j / 2 * 2 + 1 = j by omega] at e1
        rw [e1, if_neg (by omega)]
    · rw [List.getElem?_eq_none (by rw [Array.length_toList, size_madeCells]; omega), List.getElem?_eq_none (by rw [stC_len]; omega)]
  rw [← e]; exact h
end Go.Proofs.YteilaajjpjhijaaDoor
namespace Go.Proofs.YteilaajjpjhijaaDoor
open Go.RowKit PSpec
section
variable {P : Program} {ops : Array Oper} {Q : Exit → Act → World → Prop} {S : World → Prop}
theorem wpT_call {L i : Nat} {t : Tr} {a : Act} {w : World} (o : Oper) (hi : ops[i]? = some o) (hgd : o.guard = none) (f : FuncId) (args : Array Value)
    (hr : (execOp a.eval o).run P w = .ok (.enter f args) w) {R : Ending → World → Prop} (hc : Calls P f args w R)
    (h : ∀ e w', R e w' → ∃ v, e = .returned v ∧ (i = L ∨ S w') ∧ wpT P ops Q S L t (a.put o.dst v) w') : wpT P ops Q S L (.one i t) a w :=
  wpT_heavy o hi (by simp [Region.wanted, hgd]) fun K' hK => by
    unfold Oper.wp
    rw [hr]
    refine Calls.mono hc fun e w' he => ?_
    obtain ⟨v, rfl, h⟩ := h e w' he
    exact hK _ _ h
end
theorem run_alloc75 (w : World) : (Instr.alloc 75 true (.tuple #[])).run Tryd.prog w = .ok (.pointer (some ⟨w.heap.size, 0, none⟩)) (w.alloc (.cells #[.bool false, .slice none 0 0] 75)) := by
  go_simp
theorem run_build75 (w : World) (v : Value) (n c : Nat) (p : Option Addr) (hv : v = .slice p n c) : (Instr.build 75 #[(0, .bool true), (1, v)]).run Tryd.prog w = .ok (.agg #[.bool true, v]) w := by
  subst hv
  go_simp
theorem run_store75 (w : World) (b : Nat) (v : Value) (n c : Nat) (p : Option Addr) (hv : v = .slice p n c) (hb : w.heap[b]? = some (.cells #[.bool false, .slice none 0 0] 75 (0, 0))) : (Instr.storeAt 75 (.pointer (some ⟨b, 0, none⟩)) (.agg #[.bool true, v])).run Tryd.prog w = .ok () ((w.setCell ⟨b, 0, none⟩ (.bool true)).setCell ⟨b, 1, none⟩ v) := by
  subst hv
  have hc : w.cell? ⟨b, 0, none⟩ = some (.bool false) := (cell_of_row w b 0 _ _ _ hb).trans rfl
  have hc1 : w.cell? ⟨b, 1, none⟩ = some (.slice none 0 0) := (cell_of_row w b 1 _ _ _ hb).trans rfl
  have hf : w.frozen? ⟨b, 0, none⟩ = false := frozen_of_row w b 0 _ _ hb
  have hf1 : w.frozen? ⟨b, 1, none⟩ = false := frozen_of_row w b 1 _ _ hb
  go_simp
/-- what the region leaves: the new state in a block of its own -/
structure G16 (W : World) (x : Int) (t : Nat) (m : List Int) (r : Value) (b : Nat) (w : World) : Prop where
  low : Below W.heap.size W w
  lt : W.heap.size ≤ b
  c0 : w.cell? ⟨b, 0, none⟩ = some (.bool true)
  c1 : w.cell? ⟨b, 1, none⟩ = some r
  ints : Ints w r (insN x t m)
theorem g16_of {W w : World} {x : Int} {t : Nat} {m : List Int} {r : Value} {b : Nat} (hb : Below W.heap.size W w) (hlt : W.heap.size ≤ b) (hr : Ints w r (insN x t m)) (hc : w.heap[b]? = some (.cells #[.bool false, .slice none 0 0] 75 (0, 0))) :
    G16 W x t m r b ((w.setCell ⟨b, 0, none⟩ (.bool true)).setCell ⟨b, 1, none⟩ r) := by
  have ho : w.ownsRow W.heap.size 75 2 (.slice (some ⟨b, 0, none⟩) 1 1) 1 [.bool false, .slice none 0 0] := ⟨rfl, .inr ⟨b, 1, _, rfl, hlt, hc, Nat.le_refl _, by decide, rfl, rfl⟩⟩
  have hg : w.grownBy ((w.setCell ⟨b, 0, none⟩ (.bool true)).setCell ⟨b, 1, none⟩ r) (some b) := grown_set (grown_set (grownBel (Below.refl _ _) _) _ _) _ _
  have ho2 := own_set (own_set ho 0 (.bool true) (by simp)) 1 r (by simp)
  have hcs := ho2.cells (g := b) rfl
  have k0 := hcs 0 _ rfl
  have k1 := hcs 1 _ rfl
  rw [Addr.add_mid] at k0 k1
  exact ⟨(hb.setCell (p := ⟨b, 0, none⟩) hlt _).setCell (p := ⟨b, 1, none⟩) hlt _, hlt, k0, k1, ints_apart ho (fun z hz => by simp at hz) hr hg⟩
theorem two16 {ops : Array Oper} {Q : Exit → Act → World → Prop} {S : World → Prop} (o12 o13 o14 o15 : Oper)
    (h12 : ops[12]? = some o12) (h13 : ops[13]? = some o13) (h14 : ops[14]? = some o14) (h15 : ops[15]? = some o15)
    (e12 : o12.op = .call { callee := .value (.func 57), args := #[.tmp 79, .tmp 81, .tmp 86], argTypes := #[26, 3, 3] }) (e13 : o13.op = .build 75 #[(0, .const (.bool true)), (1, .tmp 87)]) (e14 : o14.op = .alloc 75) (e15 : o15.op = .store 75 (.tmp 11) (.tmp 88))
    (d12 : o12.dst = some 87) (d13 : o13.dst = some 88) (d14 : o14.dst = some 11) (d15 : o15.dst = none)
    (g12 : o12.guard = none) (g13 : o13.guard = none) (g14 : o14.guard = none) (g15 : o15.guard = none)
    (a : Act) (hs : 88 < a.tmps.size) (W : World) (v : Value) (m : List Int) (x : Int) (t : Nat) (hv : Ints W v m) (hm : m.length ≤ 1000) (ht : t ≤ 1000) (hx : I64 x)
    (q79 : a.eval (.tmp 79) = v) (q81 : a.eval (.tmp 81) = .int .i64 x) (q86 : a.eval (.tmp 86) = .int .i64 t)
    (hS : ∀ w', Below W.heap.size W w' → S w')
    (hQ : ∀ r b w', G16 W x t m r b w' → Q .normal (((a.put (some 87) r).put (some 88) (.agg #[.bool true, r])).put (some 11) (.pointer (some ⟨b, 0, none⟩))) w') :
    wpT Tryd.prog ops Q S 15 (.two 12 (.light 13 (.one 14 (.one 15 .done))) 14 (.one 12 (.light 13 (.one 15 .done)))) a W := by
  have hwant : ∀ (o : Oper) (t : Array Value), o.guard = none → Region.wanted o (yielded ops t) = true := fun o t h => by simp [Region.wanted, h]
  refine wpT_two ?_ ?_ (by decide) (by decide)
  · refine wpT_call o12 h12 g12 57 #[v, .int .i64 x, .int .i64 t] ?_ (f57_any v m x t W hv hm ht hx) ?_
    · have ef : a.eval (.func 57) = .func (.func 57) #[] #[] := rfl
      simp [execOp, e12, q79, q81, q86, resolve, invoke, ef, Deferred.ofValue]
    · rintro e w5 ⟨r, rfl, hr, hb5⟩
      obtain ⟨ra, rc, rfl⟩ := ints_slice hr
      refine ⟨_, rfl, .inr (hS _ hb5), ?_⟩
      rw [d12]
      refine wpT_light o13 h13 (hwant _ _ g13) (.agg #[.bool true, .slice ra (insN x t m).length rc]) (fun w' _ => ?_) ?_
      · have e87 : (a.put (some 87) (.slice ra (insN x t m).length rc)).eval (.tmp 87) = .slice ra (insN x t m).length rc := Act.eval_put_same _ _ _ (by omega)
        have ec : (a.put (some 87) (.slice ra (insN x t m).length rc)).eval (.const (.bool true)) = .bool true := rfl
        simp only [execOp, e13, Sem.run_bind, List.map_toArray, List.map_cons, List.map_nil, e87, ec, run_build75 _ _ _ _ _ rfl, Result.andThen_ok, Sem.run_pure]
      · rw [d13]
        refine wpT_value o14 h14 g14 (.pointer (some ⟨w5.heap.size, 0, none⟩)) (w5.alloc (.cells #[.bool false, .slice none 0 0] 75)) ?_ ⟨.inr (hS _ (hb5.alloc hb5.size _)), ?_⟩
        · simp only [execOp, e14, Sem.run_bind, run_alloc75, Result.andThen_ok, Sem.run_pure]
        · rw [d14]
          have ba : Below w5.heap.size w5 (w5.alloc (.cells #[.bool false, .slice none 0 0] 75)) := (Below.refl _ _).alloc (Nat.le_refl _) _
          refine wpT_skipH o15 h15 g15 (((w5.alloc (.cells #[.bool false, .slice none 0 0] 75)).setCell ⟨w5.heap.size, 0, none⟩ (.bool true)).setCell ⟨w5.heap.size, 1, none⟩ (.slice ra (insN x t m).length rc)) ?_ ⟨.inl rfl, ?_⟩
          · have e11 : (((a.put (some 87) (.slice ra (insN x t m).length rc)).put (some 88) (.agg #[.bool true, .slice ra (insN x t m).length rc])).put (some 11) (.pointer (some ⟨w5.heap.size, 0, none⟩))).eval (.tmp 11) = .pointer (some ⟨w5.heap.size, 0, none⟩) := Act.eval_put_same _ _ _ (by simp only [Act.size_put]; omega)
            have e88 : (((a.put (some 87) (.slice ra (insN x t m).length rc)).put (some 88) (.agg #[.bool true, .slice ra (insN x t m).length rc])).put (some 11) (.pointer (some ⟨w5.heap.size, 0, none⟩))).eval (.tmp 88) = .agg #[.bool true, .slice ra (insN x t m).length rc] := by
              rw [Act.eval_put_ne _ _ _ _ (by decide)]; exact Act.eval_put_same _ _ _ (by simp only [Act.size_put]; omega)
            simp only [execOp, e15, Sem.run_bind, e11, e88, run_store75 _ _ _ _ _ _ rfl (World.alloc_heap_new _ _), Result.andThen_ok, Sem.run_pure]
          · rw [d15]
            exact hQ _ _ _ (g16_of (hb5.alloc hb5.size _) hb5.size (hr.below ba) (World.alloc_heap_new _ _))
  · refine wpT_value o14 h14 g14 (.pointer (some ⟨W.heap.size, 0, none⟩)) (W.alloc (.cells #[.bool false, .slice none 0 0] 75)) ?_ ⟨.inr (hS _ ((Below.refl _ _).alloc (Nat.le_refl _) _)), ?_⟩
    · simp only [execOp, e14, Sem.run_bind, run_alloc75, Result.andThen_ok, Sem.run_pure]
    · rw [d14]
      have ba : Below W.heap.size W (W.alloc (.cells #[.bool false, .slice none 0 0] 75)) := (Below.refl _ _).alloc (Nat.le_refl _) _
      refine wpT_call o12 h12 g12 57 #[v, .int .i64 x, .int .i64 t] ?_ (f57_any v m x t _ (hv.below ba) hm ht hx) ?_
      · have p79 : (a.put (some 11) (.pointer (some ⟨W.heap.size, 0, none⟩))).eval (.tmp 79) = v := by rw [Act.eval_put_ne _ _ _ _ (by decide), q79]
        have p81 : (a.put (some 11) (.pointer (some ⟨W.heap.size, 0, none⟩))).eval (.tmp 81) = .int .i64 x := by rw [Act.eval_put_ne _ _ _ _ (by decide), q81]
        have p86 : (a.put (some 11) (.pointer (some ⟨W.heap.size, 0, none⟩))).eval (.tmp 86) = .int .i64 t := by rw [Act.eval_put_ne _ _ _ _ (by decide), q86]
        have ef : (a.put (some 11) (.pointer (some ⟨W.heap.size, 0, none⟩))).eval (.func 57) = .func (.func 57) #[] #[] := rfl
        simp [execOp, e12, p79, p81, p86, resolve, invoke, ef, Deferred.ofValue]
      · rintro e w5 ⟨r, rfl, hr, hb5⟩
        obtain ⟨ra, rc, rfl⟩ := ints_slice hr
        have hbW : Below W.heap.size W w5 := ba.trans (hb5.mono ba.size)
        have hblk : w5.heap[W.heap.size]? = some (.cells #[.bool false, .slice none 0 0] 75 (0, 0)) := (hb5.block _ (by simp)).trans (World.alloc_heap_new _ _)
        refine ⟨_, rfl, .inr (hS _ hbW), ?_⟩
        rw [d12]
        refine wpT_light o13 h13 (hwant _ _ g13) (.agg #[.bool true, .slice ra (insN x t m).length rc]) (fun w' _ => ?_) ?_
        · have e87 : ((a.put (some 11) (.pointer (some ⟨W.heap.size, 0, none⟩))).put (some 87) (.slice ra (insN x t m).length rc)).eval (.tmp 87) = .slice ra (insN x t m).length rc := Act.eval_put_same _ _ _ (by simp only [Act.size_put]; omega)
          have ec : ((a.put (some 11) (.pointer (some ⟨W.heap.size, 0, none⟩))).put (some 87) (.slice ra (insN x t m).length rc)).eval (.const (.bool true)) = .bool true := rfl
          simp only [execOp, e13, Sem.run_bind, List.map_toArray, List.map_cons, List.map_nil, e87, ec, run_build75 _ _ _ _ _ rfl, Result.andThen_ok, Sem.run_pure]
        · rw [d13, Act.put_comm (x := some 11) (y := some 87) _ _ _ (by simp), Act.put_comm (x := some 11) (y := some 88) _ _ _ (by simp)]
          refine wpT_skipH o15 h15 g15 ((w5.setCell ⟨W.heap.size, 0, none⟩ (.bool true)).setCell ⟨W.heap.size, 1, none⟩ (.slice ra (insN x t m).length rc)) ?_ ⟨.inl rfl, ?_⟩
          · have e11 : (((a.put (some 87) (.slice ra (insN x t m).length rc)).put (some 88) (.agg #[.bool true, .slice ra (insN x t m).length rc])).put (some 11) (.pointer (some ⟨W.heap.size, 0, none⟩))).eval (.tmp 11) = .pointer (some ⟨W.heap.size, 0, none⟩) := Act.eval_put_same _ _ _ (by simp only [Act.size_put]; omega)
            have e88 : (((a.put (some 87) (.slice ra (insN x t m).length rc)).put (some 88) (.agg #[.bool true, .slice ra (insN x t m).length rc])).put (some 11) (.pointer (some ⟨W.heap.size, 0, none⟩))).eval (.tmp 88) = .agg #[.bool true, .slice ra (insN x t m).length rc] := by
              rw [Act.eval_put_ne _ _ _ _ (by decide)]; exact Act.eval_put_same _ _ _ (by simp only [Act.size_put]; omega)
            simp only [execOp, e15, Sem.run_bind, e11, e88, run_store75 _ _ _ _ _ _ rfl hblk, Result.andThen_ok, Sem.run_pure]
          · rw [d15]
            exact hQ _ _ _ (g16_of hbW (Nat.le_refl _) hr hblk)
end Go.Proofs.YteilaajjpjhijaaDoor
namespace Go.Proofs.YteilaajjpjhijaaDoor
open Go.RowKit PSpec
theorem part75 : ∃ i0, Hid (Tryd.prog.info? 75 = some i0 ∧ i0.zero = some (.agg #[.bool false, .slice none 0 0]) ∧ i0.size = 2 ∧ i0.bytes = 32) := by
  obtain ⟨i0, hi, hz0, hz1, hz2⟩ := info_parts (P := Tryd.prog) (e := 75) (z := .agg #[.bool false, .slice none 0 0]) (size := 2) (bytes := 32) (by kernel_rfl)
  exact ⟨i0, hi, hz0, hz1, hz2⟩
theorem set_noop {α : Type} {l : List α} {k : Nat} {v : α} (h : l[k]? = some v) : l.set k v = l := by
  obtain ⟨hk, e⟩ := List.getElem?_eq_some_iff.1 h
  rw [← e]; exact List.set_getElem_self hk
theorem Sts.there {W : World} {B g n : Nat} {F : FT} (h : Sts W B g n F) {i : Nat} (hi : i < n) (hn : F i = none) : Sts (W.setCell ⟨g, i * 2, none⟩ (.bool true)) B g n (updF F i (some [])) := by
  have hg : W.grownBy (W.setCell ⟨g, i * 2, none⟩ (.bool true)) (some g) := grown_set (grownBel (Below.refl _ _) _) _ _
  have hi' := fun {u m} (hu : Ints W u m) => Sts.ints h hg hu
  obtain ⟨us, h1, h2⟩ := h
  refine ⟨us, ?_, fun j hj => ?_⟩
  · have e := stC_set F us n i hi (some []) (us i)
    rw [set_noop (by rw [List.getElem?_set_ne (by omega)]; exact (stC_get F us n i hi).2)] at e
    have e2 : (fun j => if j = i then us i else us j) = us := funext fun j => by
      by_cases h : j = i
      · rw [if_pos h, h]
      · rw [if_neg h]
    rw [e2] at e
    rw [← e]
    exact own_set h1 (i * 2) _ (by rw [stC_len]; omega)
  · by_cases e : j = i
    · subst e
      have := h2 j hj
      rw [hn] at this
      simp only [updF, if_true]
      exact hi' this
    · simp only [updF, if_neg e]
      exact hi' (h2 j hj)
theorem Sts.at0 {W : World} {B g n : Nat} {F : FT} (h : Sts W B g n F) (hn : 0 < n) : W.cell? ⟨g, 0, none⟩ = some (.bool (F 0).isSome) ∧ W.frozen? ⟨g, 0, none⟩ = false := by
  have := h.at hn
  rw [Nat.zero_mul] at this
  exact ⟨this.1, this.2.1⟩
theorem f0_eq : updF (fun _ => none) 0 (some []) = F0 := rfl
set_option maxRecDepth 100000 in
set_option maxHeartbeats 16000000 in
theorem f40_any (ro : Int) (its : List It) (ch : List Int) (iv cv : Value) (w : World) (hits : Items w iv its) (hall : its.all itB = true) (hlen : its.length ≤ 6) (hcv : Ints w cv ch) (hch : ch.length ≤ 31) :
    Calls Tryd.prog 40 #[.agg #[.int .i64 ro, iv], cv] w (BetPost (best (divs its ch)) w) := by
  obtain ⟨ia, ic, rfl, ib1, ib2, ib3⟩ := hits
  obtain ⟨ca, cc, hcve⟩ := ints_slice hcv
  subst hcve
  have HC := Lib.hid hcv
  obtain ⟨_, _, e, cc1, cc2, _, _⟩ := hcv
  obtain ⟨rfl, rfl⟩ : ca = _ ∧ cc = _ := by simpa using e
  unfold maxLen at ib2 cc2
  have HI3 := Lib.hid ib3
  have HALL := Lib.hid hall
  obtain ⟨i0, HI⟩ := part75
  have w2b : Below w.heap.size w ((w.alloc (.cells #[.int .i64 ro, .slice ia its.length ic] 55)).alloc (.cells #[.bool false, .slice none 0 0] 75)) := ((Below.refl _ _).alloc (Nat.le_refl _) _).alloc (by simp) _
  have W2B := Lib.hid w2b
  clear ib3 hall e w2b
  go_enter Tryd.func40, Tryd.ntmps40
  go_wp2_with (at_make; refine wpList_make_full _ rfl _ _ 102 rfl (w.heap.size + 1 + 1) 75 i0 (.agg #[.bool false, .slice none 0 0]) 2 Tryd.underlying102 HI.out.1 HI.out.2.1 HI.out.2.2.1 .i64 .i64 _ _ (ch.length + 1) rfl rfl (by omega) (by omega) (by rw [HI.out.2.2.2]; omega) (by unfold maxLen; omega) (by simp) ?_; intro w3 hown3 hg3; have HS3 := Lib.hid (Sts.new hown3); have HG3 := Lib.hid hg3; have k0 := (HS3.out.at0 (Nat.succ_pos _)).1; have kf := (HS3.out.at0 (Nat.succ_pos _)).2; simp only [World.size_alloc] at k0 kf HS3; clear hown3 hg3)
  obtain ⟨w2, hw2⟩ : ∃ W, W = (w.alloc (.cells #[.int .i64 ro, .slice ia its.length ic] 55)).alloc (.cells #[.bool false, .slice none 0 0] 75) := ⟨_, rfl⟩
  have hz2 : w2.heap.size = w.heap.size + 1 + 1 := by rw [hw2]; simp
  have m0 : w2.cell? ⟨w.heap.size, 1, none⟩ = some (.slice ia its.length ic) := by rw [hw2]; go_simp
  have mr : w2.heap[w.heap.size + 1]? = some (.cells #[.bool false, .slice none 0 0] 75 (0, 0)) := by
    rw [hw2, show w.heap.size + 1 = (w.alloc (.cells #[.int .i64 ro, .slice ia its.length ic] 55)).heap.size by simp]
    exact World.alloc_heap_new _ _
  rw [← hw2] at HG3 W2B
  have low3 : Below w2.heap.size w2 (w3.setCell ⟨w.heap.size + 1 + 1, 0, none⟩ (.bool true)) :=
    ((Below.refl w2.heap.size w2).grown HG3.out (Nat.le_refl _) (fun j e => by cases e)).setCell (p := ⟨w.heap.size + 1 + 1, 0, none⟩) (by rw [hz2]; exact Nat.le_refl _) _
  have hs0 : Sts (w3.setCell ⟨w.heap.size + 1 + 1, 0, none⟩ (.bool true)) w2.heap.size (w.heap.size + 1 + 1) (ch.length + 1) F0 := by
    have := HS3.out.there (i := 0) (by omega) rfl
    rw [hz2]
    simpa [f0_eq] using this
  have M0 := Lib.hid m0
  have MR := Lib.hid mr
  have LOW3 := Lib.hid low3
  have HS0 := Lib.hid hs0
  clear hw2 m0 mr low3 hs0 k0 kf HS3 HG3
  go_loopw [5, 6] (fun v5 v6 wr => ∃ (k g : Nat) (F : FT), v5 = .slice (some ⟨g, 0, none⟩) (ch.length + 1) (ch.length + 1) ∧ v6 = .int .i64 k ∧ k ≤ its.length ∧ HF its ch k F ∧ Sts wr w2.heap.size g (ch.length + 1) F ∧ Below w2.heap.size w2 wr) (fun _ v6 _ => its.length - (intOf v6).toNat)
  case atStart => exact ⟨0, w.heap.size + 1 + 1, F0, rfl, rfl, Nat.zero_le _, hf_zero its ch, HS0.out, LOW3.out⟩
  case round =>
    obtain ⟨k, g, F, rfl, rfl, hk, hF, hS, hb⟩ := hrel
    have HFk := Lib.hid hF
    have HSk := Lib.hid hS
    have HB := Lib.hid hb
    have m1 : wr.cell? ⟨w.heap.size, 1, none⟩ = some (.slice ia its.length ic) := keeps_of_below hb _ _ M0.out
    clear hF hS hb
    by_cases hkl : k < its.length
    · obtain ⟨x, hx⟩ := get_some its k hkl
      obtain ⟨b, o, rfl, hc⟩ := HI3.out (by rintro rfl; simp at hx)
      obtain ⟨x0, x1, x2⟩ := (hc k x hx).keep (keeps_of_below (W2B.out.trans (HB.out.mono W2B.out.size)))
      have hxB : itB x = true := List.all_eq_true.1 HALL.out x (List.mem_of_getElem? hx)
      have HX := Lib.hid hx
      have HXB := Lib.hid hxB
      obtain ⟨xo, xl, xm⟩ := x
      simp only at x0 x1 x2
      have i0' : (0 : Int) ≤ (k : Int) := by omega
      have i1' : (k : Int) < (its.length : Int) := by omega
      have hwz : w2.heap.size ≤ wr.heap.size := HB.out.size
      clear hx hc hxB
      go_wp2_with (at_make; refine wpList_make_full _ rfl _ _ 102 rfl w2.heap.size 75 i0 (.agg #[.bool false, .slice none 0 0]) 2 Tryd.underlying102 HI.out.1 HI.out.2.1 HI.out.2.2.1 .i64 .i64 _ _ (ch.length + 1) rfl rfl (by omega) (by omega) (by rw [HI.out.2.2.2]; omega) (by unfold maxLen; omega) (by simp; omega) ?_; intro w4 hown4 hg4; have HS4 := Lib.hid (Sts.new hown4); have HG4 := Lib.hid hg4; clear hown4 hg4)
      obtain ⟨wa, hwa⟩ : ∃ W, W = wr.alloc (.cells #[.int .i64 xo, .int .i64 xl, .int .i64 xm] 59) := ⟨_, rfl⟩
      have hza : wa.heap.size = wr.heap.size + 1 := by rw [hwa]; simp
      have y0 : wa.cell? ⟨wr.heap.size, 0, none⟩ = some (.int .i64 xo) := by rw [hwa]; go_simp
      have y1 : wa.cell? ⟨wr.heap.size, 1, none⟩ = some (.int .i64 xl) := by rw [hwa]; go_simp
      have y2 : wa.cell? ⟨wr.heap.size, 2, none⟩ = some (.int .i64 xm) := by rw [hwa]; go_simp
      have bwa : Below wr.heap.size wr wa := by rw [hwa]; exact (Below.refl _ _).alloc (Nat.le_refl _) _
      rw [← hwa] at HG4
      simp only [World.size_alloc] at HS4 ⊢
      have low4 : Below wa.heap.size wa w4 := (Below.refl wa.heap.size wa).grown HG4.out (Nat.le_refl _) (fun j e => by cases e)
      have HSF := Lib.hid ((HSk.out.below bwa).below low4)
      have LOW4 := Lib.hid low4
      have BWA := Lib.hid bwa
      have Y0 := Lib.hid y0
      have Y1 := Lib.hid y1
      have Y2 := Lib.hid y2
      have hgg : g < wr.heap.size := HSk.out.lt.2
      obtain ⟨bx, hbx⟩ : ∃ bx, bx = wr.heap.size := ⟨_, rfl⟩
      rw [← hbx] at hza Y0 Y1 Y2 HS4 hgg ⊢
      clear hwa y0 y1 y2 bwa low4 HG4 x0 x1 x2 m1 hbx
      go_loopw [9] (fun v9 wi => ∃ (i : Nat) (G : FT), v9 = .int .i64 i ∧ i ≤ ch.length + 1 ∧ HM (xo, xl, xm) ch F i G ∧ Sts wi w2.heap.size (bx + 1) (ch.length + 1) G ∧ Sts wi w2.heap.size g (ch.length + 1) F ∧ Below wa.heap.size wa wi) (fun v9 _ => ch.length + 1 - (intOf v9).toNat)
      case atStart => exact ⟨0, fun _ => none, rfl, Nat.zero_le _, hm_zero _ _ _, HS4.out, HSF.out, LOW4.out⟩
      case round =>
        obtain ⟨i, G, rfl, hi, hM, hSG, hSF, hb⟩ := hrel
        have HMi := Lib.hid hM
        have HSG := Lib.hid hSG
        have HSFi := Lib.hid hSF
        have HBi := Lib.hid hb
        clear hM hSG hSF hb HS4 HSF LOW4
        by_cases hil : i < ch.length + 1
        · obtain ⟨c0, _, _, ma, mc, c1, hmi⟩ := HSFi.out.at hil
          have j0 : (0 : Int) ≤ (i : Int) := by omega
          have j1 : (i : Int) < (ch.length : Int) + 1 := by omega
          cases hFi : F i with
          | none =>
            rw [hFi] at c0 c1 hmi
            have HN := Lib.hid hFi
            clear hFi hmi
            simp only [Option.isSome_none] at c0
            go_wp2_with fail
            exact ⟨⟨i + 1, G, by go_num, by omega, hm_skip HMi.out HN.out, HSG.out, HSFi.out, HBi.out⟩, by simp only [intOf]; omega⟩
          | some m =>
            rw [hFi] at c0 c1 hmi
            have HN := Lib.hid hFi
            simp only [Option.isSome_some, Option.getD_some] at c0 c1 hmi
            have hms := (hf_wf HALL.out HFk.out hFi).2
            clear hFi
            go_wp2_with fail
            have hM0 := ht_zero (i := i) m HMi.out
            have HT0 := Lib.hid hM0
            have HMIN := Lib.hid hmi
            have hmx : maxT (xo, xl, xm) (ch.drop i) ≤ (ch.drop i).length := maxT_len _ _
            rw [List.length_drop] at hmx
            clear hM0 hmi c0 c1
            go_loopw [10] (fun v10 wr => ∃ (T : Nat) (G' : FT), v10 = .int .i64 T ∧ T ≤ maxT (xo, xl, xm) (ch.drop i) + 1 ∧ HT (xo, xl, xm) ch F i T m G' ∧ Sts wr w2.heap.size (bx + 1) (ch.length + 1) G' ∧ Sts wr w2.heap.size g (ch.length + 1) F ∧ Below wa.heap.size wa wr) (fun v10 _ => maxT (xo, xl, xm) (ch.drop i) + 1 - (intOf v10).toNat)
            case atStart => exact ⟨0, G, rfl, Nat.zero_le _, HT0.out, HSG.out, HSFi.out, HBi.out⟩
            case round =>
              obtain ⟨T, G', rfl, hT, hHT, hSG', hSF', hb'⟩ := hrel
              have HTt := Lib.hid hHT
              have HSG' := Lib.hid hSG'
              have HSF' := Lib.hid hSF'
              have HBt := Lib.hid hb'
              have t0 : wr.cell? ⟨bx, 0, none⟩ = some (.int .i64 xo) := keeps_of_below hb' _ _ Y0.out
              have t1 : wr.cell? ⟨bx, 1, none⟩ = some (.int .i64 xl) := keeps_of_below hb' _ _ Y1.out
              have t2 : wr.cell? ⟨bx, 2, none⟩ = some (.int .i64 xm) := keeps_of_below hb' _ _ Y2.out
              clear hHT hSG' hSF' hb'
              have hxb := HXB.out
              simp only [itB, opB, Bool.and_eq_true, decide_eq_true_eq] at hxb
              obtain ⟨⟨⟨⟨hop, hm1⟩, hm9⟩, hl0⟩, hlm⟩ := hxb
              by_cases hTe : T = maxT (xo, xl, xm) (ch.drop i) + 1
              · have hnx := maxT_next (x := (xo, xl, xm)) (ch := ch) (i := i) (Nat.le_refl (maxT (xo, xl, xm) (ch.drop i)))
                have hT1 : 0 < T := by omega
                rw [← hTe, show i + maxT (xo, xl, xm) (ch.drop i) = i + T - 1 by omega] at hnx
                have hno : ¬ (T ≤ xm.toNat ∧ ch[i + T - 1]? = some xo) := fun h => by
                  have := hnx.2 h; omega
                have HTE := Lib.hid hTe
                clear hnx hTe
                by_cases hA : (T : Int) ≤ xm
                · by_cases hBl : (i : Int) + (T : Int) ≤ (ch.length : Int)
                  · obtain ⟨y, hy⟩ := get_some ch (i + T - 1) (by omega)
                    have hyx : ¬ y = xo := fun e => hno ⟨by omega, by rw [hy, e]⟩
                    obtain ⟨ca', cc', e, _, _, _, hcc⟩ := HC.out
                    obtain ⟨rfl, rfl⟩ : ca = ca' ∧ cc = cc' := by simpa using e
                    obtain ⟨cb, co, rfl, hcell⟩ := hcc (by rintro rfl; simp at hy)
                    have q0 : wr.cell? ⟨cb, co + (i + T - 1), none⟩ = some (.int .i64 y) := keeps_of_below HBt.out _ _ (keeps_of_below BWA.out _ _ (keeps_of_below (W2B.out.trans (HB.out.mono W2B.out.size)) _ _ (hcell _ y hy)))
                    have dy : (y != xo) = true := by simpa using hyx
                    obtain ⟨q, hq⟩ : ∃ q, q = i + T - 1 := ⟨_, rfl⟩
                    rw [← hq] at q0
                    have e1 : (i : Int) + (T : Int) - 1 = (q : Int) := by omega
                    have e2 : (0 : Int) ≤ (q : Int) := by omega
                    have e3 : (q : Int) < (ch.length : Int) := by omega
                    clear hq hy hcc hcell hno e hyx
                    go_wp2_with fail
                    go_quiet (fail)
                    go_wp2_with fail
                    exact ⟨⟨i + 1, G', by go_num, by omega, ht_end HN.out HTt.out HTE.out, HSG'.out.below (below_drewN (Below.refl _ _) _), HSF'.out.below (below_drewN (Below.refl _ _) _), below_drewN HBt.out _⟩, by simp only [intOf]; omega⟩
                  · have dB : decide ((i : Int) + (T : Int) ≤ (ch.length : Int)) = false := by simpa using hBl
                    clear hBl hno
                    go_wp2_with fail
                    exact ⟨⟨i + 1, G', by go_num, by omega, ht_end HN.out HTt.out HTE.out, HSG'.out, HSF'.out, HBt.out⟩, by simp only [intOf]; omega⟩
                · have dA : decide ((T : Int) ≤ xm) = false := by simpa using hA
                  clear hno
                  go_wp2_with fail
                  exact ⟨⟨i + 1, G', by go_num, by omega, ht_end HN.out HTt.out HTE.out, HSG'.out, HSF'.out, HBt.out⟩, by simp only [intOf]; omega⟩
              · have hTm : T ≤ maxT (xo, xl, xm) (ch.drop i) := by omega
                obtain ⟨hm, rr, hrr⟩ := (maxT_iff _ _ _).1 hTm
                have hA : (T : Int) ≤ xm := by simp only at hm; omega
                have hBl : (i : Int) + (T : Int) ≤ (ch.length : Int) := by omega
                have hTM := Lib.hid hTm
                clear hTe
                rcases Nat.eq_zero_or_pos T with hT0 | hT1
                · have hT1 : ¬ 0 < T := by omega
                  clear hT0 hrr hm
                  go_wp2_with fail
                  go_quiet (fail)
                  go_wp2_with fail
                  obtain ⟨ws, hws⟩ : ∃ W, W = wr.drewN nq := ⟨_, rfl⟩
                  have bws : Below wr.heap.size wr ws := by rw [hws]; exact below_drewN (Below.refl _ _) _
                  rw [← hws]
                  have SG1 := Lib.hid (HSG'.out.below bws)
                  have SF1 := Lib.hid (HSF'.out.below bws)
                  have HB1 : Hid (Below wa.heap.size wa ws) := HBt.out.trans (bws.mono HBt.out.size)
                  obtain ⟨_, _, _, na, nc, s1, hmi'⟩ := SF1.out.at hil
                  rw [HN.out] at s1 hmi'
                  simp only [Option.getD_some] at s1 hmi'
                  have u0 : ws.cell? ⟨bx, 0, none⟩ = some (.int .i64 xo) := keeps_of_below HB1.out _ _ Y0.out
                  have u1 : ws.cell? ⟨bx, 1, none⟩ = some (.int .i64 xl) := keeps_of_below HB1.out _ _ Y1.out
                  have HMI2 := Lib.hid hmi'
                  obtain ⟨t, ht⟩ : ∃ t : Nat, t = (xl - (T : Int)).toNat := ⟨_, rfl⟩
                  have ewt : IntKind.i64.wrap (xl - (T : Int)) = xl - (T : Int) := by rw [IntKind.wrap_i64]; omega
                  have et : max 0 (xl - (T : Int)) = (t : Int) := by omega
                  have htt : t ≤ 1000 := by omega
                  have HTEQ := Lib.hid ht
                  have I64x : I64 xo := ⟨by omega, by omega⟩
                  have HML : m.length ≤ 1000 := by omega
                  clear hws bws ht hmi' t0 t1 t2
                  refine wp_region_tree 15 (.light 0 (.light 1 (.light 2 (.light 3 (.light 4 (.light 5 (.light 6 (.light 7 (.light 8 (.light 9 (.light 10 (.light 11 (.two 12 (.light 13 (.one 14 (.one 15 .done))) 14 (.one 12 (.light 13 (.one 15 .done)))))))))))))))) (fun w' => w'.cell? ⟨g, i * 2 + 1, none⟩ = some (.slice na m.length nc) ∧ w'.cell? ⟨bx, 0, none⟩ = some (.int .i64 xo) ∧ w'.cell? ⟨bx, 1, none⟩ = some (.int .i64 xl))
                    (by kernel_rfl) (by kernel_rfl) (by kernel_rfl) rfl (by kernel_rfl) (fun _ _ d _ _ h => by cases d <;> exact h) ⟨s1, u0, u1⟩ ?_
                  refine wpT_light _ rfl rfl _ (fun w' hS => by go_simp; rfl) ?_
                  refine wpT_light _ rfl rfl _ (fun w' hS => by go_simp; rfl) ?_
                  refine wpT_light _ rfl rfl _ (fun w' hS => by go_simp; rfl) ?_
                  go_simp
                  refine wpT_light _ rfl rfl _ (fun w' hS => by go_simp; rfl) ?_
                  refine wpT_light _ rfl rfl _ (fun w' hS => by obtain ⟨s1, s2, s3⟩ := hS; go_simp; rfl) ?_
                  go_simp
                  refine wpT_light _ rfl rfl _ (fun w' hS => by go_simp; rfl) ?_
                  refine wpT_light _ rfl rfl _ (fun w' hS => by obtain ⟨s1, s2, s3⟩ := hS; go_simp; rfl) ?_
                  refine wpT_light _ rfl rfl _ (fun w' hS => by go_simp; rfl) ?_
                  refine wpT_light _ rfl rfl _ (fun w' hS => by obtain ⟨s1, s2, s3⟩ := hS; go_simp; rfl) ?_
                  go_simp
                  refine wpT_light _ rfl rfl _ (fun w' hS => by go_simp; rfl) ?_
                  refine wpT_light _ rfl rfl _ (fun w' hS => by go_simp; rfl) ?_
                  refine wpT_light _ rfl rfl _ (fun w' hS => by go_simp; rfl) ?_
                  go_simp
                  have bd : Below ws.heap.size ws ws.drew := (Below.refl _ _).drew
                  refine two16 _ _ _ _ rfl rfl rfl rfl rfl rfl rfl rfl rfl rfl rfl rfl rfl rfl rfl rfl _ (by first | exact of_decide_eq_true rfl | simp) ws.drew (.slice na m.length nc) m xo t (HMI2.out.below bd) HML htt I64x rfl rfl rfl
                    (fun w' hb => ⟨keeps_of_below hb _ _ s1, keeps_of_below hb _ _ u0, keeps_of_below hb _ _ u1⟩) ?_
                  intro r bs w6 hG
                  obtain ⟨r6, n6, rfl⟩ := ints_slice hG.ints
                  have b6 : Below ws.heap.size ws w6 := bd.trans (hG.low.mono bd.size)
                  have SG6 := Lib.hid (SG1.out.below b6)
                  have SF6 := Lib.hid (SF1.out.below b6)
                  have HB6 : Hid (Below wa.heap.size wa w6) := HB1.out.trans (b6.mono HB1.out.size)
                  obtain ⟨q, hq⟩ : ∃ q, q = i + T := ⟨_, rfl⟩
                  have hqn : q < ch.length + 1 := by omega
                  have e4 : (i : Int) + (T : Int) = (q : Int) := by omega
                  have ewq : IntKind.i64.wrap (q : Int) = (q : Int) := by rw [IntKind.wrap_i64]; omega
                  have e5 : (0 : Int) ≤ (q : Int) := by omega
                  have e6 : (q : Int) < (ch.length : Int) + 1 := by omega
                  obtain ⟨v0, vf0, vf1, va, vc, v1, hvi⟩ := SG6.out.at hqn
                  have v2 := hG.c0
                  have v3 := hG.c1
                  have HRI := Lib.hid hG.ints
                  have HVI := Lib.hid hvi
                  have HQE := Lib.hid hq
                  clear hG b6 s1 u0 u1 hvi hq
                  simp only [Act.put]
                  go_wp2_with fail
                  refine wp_region_ordQ 13 [(0, true), (1, true), (2, true), (3, true), (4, true), (5, true), (6, true), (7, true), (8, true), (9, true), (10, true), (11, false), (12, true), (13, false)] (fun w' => w'.cell? ⟨bx + 1, q * 2, none⟩ = some (.bool (G' q).isSome) ∧ w'.cell? ⟨bx + 1, q * 2 + 1, none⟩ = some (.slice va ((G' q).getD []).length vc) ∧ w'.cell? ⟨bs, 0, none⟩ = some (.bool true) ∧ w'.cell? ⟨bs, 1, none⟩ = some (.slice r6 (insN xo t m).length n6))
                    (by kernel_rfl) (by kernel_rfl) (by kernel_rfl) rfl (by kernel_rfl) (fun _ _ d _ _ h => by cases d <;> exact h) ⟨v0, v1, v2, v3⟩ ?_
                  refine wpP_light _ rfl rfl _ (fun w' hS => by go_simp; rfl) ?_
                  refine wpP_light _ rfl rfl _ (fun w' hS => by go_simp; rfl) ?_
                  refine wpP_light _ rfl rfl _ (fun w' hS => by go_simp; rfl) ?_
                  go_simp
                  refine wpP_light _ rfl rfl _ (fun w' hS => by go_simp; rfl) ?_
                  go_simp
                  refine wpP_light _ rfl rfl _ (fun w' hS => by go_simp; rfl) ?_
                  refine wpP_light _ rfl rfl _ (fun w' hS => by go_simp; rfl) ?_
                  refine wpP_light _ rfl rfl _ (fun w' hS => by go_simp; rfl) ?_
                  go_simp
                  refine wpP_light _ rfl rfl _ (fun w' hS => by go_simp; rfl) ?_
                  go_simp
                  refine wpP_light _ rfl rfl _ (fun w' hS => by go_simp; rfl) ?_
                  go_simp
                  refine wpP_light _ rfl rfl _ (fun w' hS => by obtain ⟨s1, s2, s3, s4⟩ := hS; go_simp; rfl) ?_
                  refine wpP_light _ rfl rfl _ (fun w' hS => by obtain ⟨s1, s2, s3, s4⟩ := hS; go_simp; rfl) ?_
                  go_simp
                  have b6d : Below w6.heap.size w6 w6.drew := (Below.refl _ _).drew
                  have hbet := f39_any (G' q) (some (insN xo t m)) (.slice va ((G' q).getD []).length vc) (.slice r6 (insN xo t m).length n6) w6.drew (HVI.out.below b6d) (HRI.out.below b6d)
                  rw [betO_some] at hbet
                  obtain ⟨o2, ho2⟩ : ∃ o2, o2 = better (G' q) (insN xo t m) := ⟨_, rfl⟩
                  rw [← ho2] at hbet
                  have HBET := Lib.hid hbet
                  have HO2 := Lib.hid ho2
                  have SG6d := Lib.hid (SG6.out.below b6d)
                  have SF6d := Lib.hid (SF6.out.below b6d)
                  have HB6d : Hid (Below wa.heap.size wa w6.drew) := HB6.out.trans (b6d.mono HB6.out.size)
                  clear hbet ho2
                  refine wpP_heavy _ rfl rfl fun K' hK => ?_
                  go_simp
                  refine HBET.out.mono ?_
                  rintro e w7 ⟨r2, rfl, hr2, hb7⟩
                  obtain ⟨a7, c7, rfl⟩ := ints_slice hr2
                  have SG7 := Lib.hid (SG6d.out.below hb7)
                  have SF7 := Lib.hid (SF6d.out.below hb7)
                  have HB7 : Hid (Below wa.heap.size wa w7) := HB6d.out.trans (hb7.mono HB6d.out.size)
                  obtain ⟨z0, zf0, zf1, _, _, z1, _⟩ := SG7.out.at hqn
                  refine hK _ _ ⟨.inr ⟨keeps_of_below hb7 _ _ v0, keeps_of_below hb7 _ _ v1, keeps_of_below hb7 _ _ v2, keeps_of_below hb7 _ _ v3⟩, ?_⟩
                  have HR2 := Lib.hid hr2
                  clear hK K' hr2 hb7 v0 v1 v2 v3 vf0 vf1
                  refine wpP_light _ rfl rfl _ (fun w' hS => by go_simp; rfl) ?_
                  go_simp
                  refine wpP_skipH _ rfl rfl ((w7.setCell ⟨bx + 1, q * 2, none⟩ (.bool o2.isSome)).setCell ⟨bx + 1, q * 2 + 1, none⟩ (.slice a7 (o2.getD []).length c7)) ?_ ⟨.inl rfl, ?_⟩
                  · go_simp
                  refine wpP_nil ?_
                  have hg8 : w7.grownBy ((w7.setCell ⟨bx + 1, q * 2, none⟩ (.bool o2.isSome)).setCell ⟨bx + 1, q * 2 + 1, none⟩ (.slice a7 (o2.getD []).length c7)) (some (bx + 1)) := grown_set (grown_set (grownBel (Below.refl _ _) _) _ _) _ _
                  have SG8 := Lib.hid (SG7.out.put hqn o2 HR2.out)
                  have SF8 := Lib.hid (SF7.out.apart SG7.out (by omega) hg8)
                  have HB8 : Hid (Below wa.heap.size wa ((w7.setCell ⟨bx + 1, q * 2, none⟩ (.bool o2.isSome)).setCell ⟨bx + 1, q * 2 + 1, none⟩ (.slice a7 (o2.getD []).length c7))) := (HB7.out.setCell (p := ⟨bx + 1, q * 2, none⟩) (by rw [hza]; exact Nat.le_refl _) _).setCell (p := ⟨bx + 1, q * 2 + 1, none⟩) (by rw [hza]; exact Nat.le_refl _) _
                  have hstep := ht_step HTt.out
                  rw [← HQE.out] at hstep
                  have hstep2 : HT (xo, xl, xm) ch F i (T + 1) m (updF G' q o2) := by rw [HO2.out, HTEQ.out]; exact hstep
                  have HST := Lib.hid hstep2
                  clear hg8 hstep hstep2 z0 z1 zf0 zf1
                  go_wp2_with fail
                  exact ⟨⟨T + 1, _, by go_num, by have := hTM.out; omega, HST.out, SG8.out, SF8.out, HB8.out⟩, by have := hTM.out; simp only [intOf]; omega⟩
                · have hy : ch[i + T - 1]? = some xo := by
                    rw [show i + T - 1 = i + (T - 1) by omega, ← List.getElem?_drop, hrr, List.getElem?_append_left (by simp; omega), List.getElem?_replicate, if_pos (by omega)]
                  obtain ⟨ca', cc', e, _, _, _, hcc⟩ := HC.out
                  obtain ⟨rfl, rfl⟩ : ca = ca' ∧ cc = cc' := by simpa using e
                  obtain ⟨cb, co, rfl, hcell⟩ := hcc (by rintro rfl; simp at hy)
                  have q0 : wr.cell? ⟨cb, co + (i + T - 1), none⟩ = some (.int .i64 xo) := keeps_of_below HBt.out _ _ (keeps_of_below BWA.out _ _ (keeps_of_below (W2B.out.trans (HB.out.mono W2B.out.size)) _ _ (hcell _ xo hy)))
                  have dy : (xo != xo) = false := by simp
                  obtain ⟨q, hq⟩ : ∃ q, q = i + T - 1 := ⟨_, rfl⟩
                  rw [← hq] at q0
                  have e1 : (i : Int) + (T : Int) - 1 = (q : Int) := by omega
                  have e2 : (0 : Int) ≤ (q : Int) := by omega
                  have e3 : (q : Int) < (ch.length : Int) := by omega
                  clear hq hy hcc hcell e hrr hm
                  go_wp2_with fail
                  go_quiet (fail)
                  go_wp2_with fail
                  clear e1 e2 e3 q0
                  obtain ⟨ws, hws⟩ : ∃ W, W = wr.drewN nq := ⟨_, rfl⟩
                  have bws : Below wr.heap.size wr ws := by rw [hws]; exact below_drewN (Below.refl _ _) _
                  rw [← hws]
                  have SG1 := Lib.hid (HSG'.out.below bws)
                  have SF1 := Lib.hid (HSF'.out.below bws)
                  have HB1 : Hid (Below wa.heap.size wa ws) := HBt.out.trans (bws.mono HBt.out.size)
                  obtain ⟨_, _, _, na, nc, s1, hmi'⟩ := SF1.out.at hil
                  rw [HN.out] at s1 hmi'
                  simp only [Option.getD_some] at s1 hmi'
                  have u0 : ws.cell? ⟨bx, 0, none⟩ = some (.int .i64 xo) := keeps_of_below HB1.out _ _ Y0.out
                  have u1 : ws.cell? ⟨bx, 1, none⟩ = some (.int .i64 xl) := keeps_of_below HB1.out _ _ Y1.out
                  have HMI2 := Lib.hid hmi'
                  obtain ⟨t, ht⟩ : ∃ t : Nat, t = (xl - (T : Int)).toNat := ⟨_, rfl⟩
                  have ewt : IntKind.i64.wrap (xl - (T : Int)) = xl - (T : Int) := by rw [IntKind.wrap_i64]; omega
                  have et : max 0 (xl - (T : Int)) = (t : Int) := by omega
                  have htt : t ≤ 1000 := by omega
                  have HTEQ := Lib.hid ht
                  have I64x : I64 xo := ⟨by omega, by omega⟩
                  have HML : m.length ≤ 1000 := by omega
                  clear hws bws ht hmi' t0 t1 t2
                  refine wp_region_tree 15 (.light 0 (.light 1 (.light 2 (.light 3 (.light 4 (.light 5 (.light 6 (.light 7 (.light 8 (.light 9 (.light 10 (.light 11 (.two 12 (.light 13 (.one 14 (.one 15 .done))) 14 (.one 12 (.light 13 (.one 15 .done)))))))))))))))) (fun w' => w'.cell? ⟨g, i * 2 + 1, none⟩ = some (.slice na m.length nc) ∧ w'.cell? ⟨bx, 0, none⟩ = some (.int .i64 xo) ∧ w'.cell? ⟨bx, 1, none⟩ = some (.int .i64 xl))
                    (by kernel_rfl) (by kernel_rfl) (by kernel_rfl) rfl (by kernel_rfl) (fun _ _ d _ _ h => by cases d <;> exact h) ⟨s1, u0, u1⟩ ?_
                  refine wpT_light _ rfl rfl _ (fun w' hS => by go_simp; rfl) ?_
                  refine wpT_light _ rfl rfl _ (fun w' hS => by go_simp; rfl) ?_
                  refine wpT_light _ rfl rfl _ (fun w' hS => by go_simp; rfl) ?_
                  go_simp
                  refine wpT_light _ rfl rfl _ (fun w' hS => by go_simp; rfl) ?_
                  refine wpT_light _ rfl rfl _ (fun w' hS => by obtain ⟨s1, s2, s3⟩ := hS; go_simp; rfl) ?_
                  go_simp
                  refine wpT_light _ rfl rfl _ (fun w' hS => by go_simp; rfl) ?_
                  refine wpT_light _ rfl rfl _ (fun w' hS => by obtain ⟨s1, s2, s3⟩ := hS; go_simp; rfl) ?_
                  refine wpT_light _ rfl rfl _ (fun w' hS => by go_simp; rfl) ?_
                  refine wpT_light _ rfl rfl _ (fun w' hS => by obtain ⟨s1, s2, s3⟩ := hS; go_simp; rfl) ?_
                  go_simp
                  refine wpT_light _ rfl rfl _ (fun w' hS => by go_simp; rfl) ?_
                  refine wpT_light _ rfl rfl _ (fun w' hS => by go_simp; rfl) ?_
                  refine wpT_light _ rfl rfl _ (fun w' hS => by go_simp; rfl) ?_
                  go_simp
                  have bd : Below ws.heap.size ws ws.drew := (Below.refl _ _).drew
                  refine two16 _ _ _ _ rfl rfl rfl rfl rfl rfl rfl rfl rfl rfl rfl rfl rfl rfl rfl rfl _ (by first | exact of_decide_eq_true rfl | simp) ws.drew (.slice na m.length nc) m xo t (HMI2.out.below bd) HML htt I64x rfl rfl rfl
                    (fun w' hb => ⟨keeps_of_below hb _ _ s1, keeps_of_below hb _ _ u0, keeps_of_below hb _ _ u1⟩) ?_
                  intro r bs w6 hG
                  obtain ⟨r6, n6, rfl⟩ := ints_slice hG.ints
                  have b6 : Below ws.heap.size ws w6 := bd.trans (hG.low.mono bd.size)
                  have SG6 := Lib.hid (SG1.out.below b6)
                  have SF6 := Lib.hid (SF1.out.below b6)
                  have HB6 : Hid (Below wa.heap.size wa w6) := HB1.out.trans (b6.mono HB1.out.size)
                  obtain ⟨q, hq⟩ : ∃ q, q = i + T := ⟨_, rfl⟩
                  have hqn : q < ch.length + 1 := by omega
                  have e4 : (i : Int) + (T : Int) = (q : Int) := by omega
                  have ewq : IntKind.i64.wrap (q : Int) = (q : Int) := by rw [IntKind.wrap_i64]; omega
                  have e5 : (0 : Int) ≤ (q : Int) := by omega
                  have e6 : (q : Int) < (ch.length : Int) + 1 := by omega
                  obtain ⟨v0, vf0, vf1, va, vc, v1, hvi⟩ := SG6.out.at hqn
                  have v2 := hG.c0
                  have v3 := hG.c1
                  have HRI := Lib.hid hG.ints
                  have HVI := Lib.hid hvi
                  have HQE := Lib.hid hq
                  clear hG b6 s1 u0 u1 hvi hq
                  simp only [Act.put]
                  go_wp2_with fail
                  refine wp_region_ordQ 13 [(0, true), (1, true), (2, true), (3, true), (4, true), (5, true), (6, true), (7, true), (8, true), (9, true), (10, true), (11, false), (12, true), (13, false)] (fun w' => w'.cell? ⟨bx + 1, q * 2, none⟩ = some (.bool (G' q).isSome) ∧ w'.cell? ⟨bx + 1, q * 2 + 1, none⟩ = some (.slice va ((G' q).getD []).length vc) ∧ w'.cell? ⟨bs, 0, none⟩ = some (.bool true) ∧ w'.cell? ⟨bs, 1, none⟩ = some (.slice r6 (insN xo t m).length n6))
                    (by kernel_rfl) (by kernel_rfl) (by kernel_rfl) rfl (by kernel_rfl) (fun _ _ d _ _ h => by cases d <;> exact h) ⟨v0, v1, v2, v3⟩ ?_
                  refine wpP_light _ rfl rfl _ (fun w' hS => by go_simp; rfl) ?_
                  refine wpP_light _ rfl rfl _ (fun w' hS => by go_simp; rfl) ?_
                  refine wpP_light _ rfl rfl _ (fun w' hS => by go_simp; rfl) ?_
                  go_simp
                  refine wpP_light _ rfl rfl _ (fun w' hS => by go_simp; rfl) ?_
                  go_simp
                  refine wpP_light _ rfl rfl _ (fun w' hS => by go_simp; rfl) ?_
                  refine wpP_light _ rfl rfl _ (fun w' hS => by go_simp; rfl) ?_
                  refine wpP_light _ rfl rfl _ (fun w' hS => by go_simp; rfl) ?_
                  go_simp
                  refine wpP_light _ rfl rfl _ (fun w' hS => by go_simp; rfl) ?_
                  go_simp
                  refine wpP_light _ rfl rfl _ (fun w' hS => by go_simp; rfl) ?_
                  go_simp
                  refine wpP_light _ rfl rfl _ (fun w' hS => by obtain ⟨s1, s2, s3, s4⟩ := hS; go_simp; rfl) ?_
                  refine wpP_light _ rfl rfl _ (fun w' hS => by obtain ⟨s1, s2, s3, s4⟩ := hS; go_simp; rfl) ?_
                  go_simp
                  have b6d : Below w6.heap.size w6 w6.drew := (Below.refl _ _).drew
                  have hbet := f39_any (G' q) (some (insN xo t m)) (.slice va ((G' q).getD []).length vc) (.slice r6 (insN xo t m).length n6) w6.drew (HVI.out.below b6d) (HRI.out.below b6d)
                  rw [betO_some] at hbet
                  obtain ⟨o2, ho2⟩ : ∃ o2, o2 = better (G' q) (insN xo t m) := ⟨_, rfl⟩
                  rw [← ho2] at hbet
                  have HBET := Lib.hid hbet
                  have HO2 := Lib.hid ho2
                  have SG6d := Lib.hid (SG6.out.below b6d)
                  have SF6d := Lib.hid (SF6.out.below b6d)
                  have HB6d : Hid (Below wa.heap.size wa w6.drew) := HB6.out.trans (b6d.mono HB6.out.size)
                  clear hbet ho2
                  refine wpP_heavy _ rfl rfl fun K' hK => ?_
                  go_simp
                  refine HBET.out.mono ?_
                  rintro e w7 ⟨r2, rfl, hr2, hb7⟩
                  obtain ⟨a7, c7, rfl⟩ := ints_slice hr2
                  have SG7 := Lib.hid (SG6d.out.below hb7)
                  have SF7 := Lib.hid (SF6d.out.below hb7)
                  have HB7 : Hid (Below wa.heap.size wa w7) := HB6d.out.trans (hb7.mono HB6d.out.size)
                  obtain ⟨z0, zf0, zf1, _, _, z1, _⟩ := SG7.out.at hqn
                  refine hK _ _ ⟨.inr ⟨keeps_of_below hb7 _ _ v0, keeps_of_below hb7 _ _ v1, keeps_of_below hb7 _ _ v2, keeps_of_below hb7 _ _ v3⟩, ?_⟩
                  have HR2 := Lib.hid hr2
                  clear hK K' hr2 hb7 v0 v1 v2 v3 vf0 vf1
                  refine wpP_light _ rfl rfl _ (fun w' hS => by go_simp; rfl) ?_
                  go_simp
                  refine wpP_skipH _ rfl rfl ((w7.setCell ⟨bx + 1, q * 2, none⟩ (.bool o2.isSome)).setCell ⟨bx + 1, q * 2 + 1, none⟩ (.slice a7 (o2.getD []).length c7)) ?_ ⟨.inl rfl, ?_⟩
                  · go_simp
                  refine wpP_nil ?_
                  have hg8 : w7.grownBy ((w7.setCell ⟨bx + 1, q * 2, none⟩ (.bool o2.isSome)).setCell ⟨bx + 1, q * 2 + 1, none⟩ (.slice a7 (o2.getD []).length c7)) (some (bx + 1)) := grown_set (grown_set (grownBel (Below.refl _ _) _) _ _) _ _
                  have SG8 := Lib.hid (SG7.out.put hqn o2 HR2.out)
                  have SF8 := Lib.hid (SF7.out.apart SG7.out (by omega) hg8)
                  have HB8 : Hid (Below wa.heap.size wa ((w7.setCell ⟨bx + 1, q * 2, none⟩ (.bool o2.isSome)).setCell ⟨bx + 1, q * 2 + 1, none⟩ (.slice a7 (o2.getD []).length c7))) := (HB7.out.setCell (p := ⟨bx + 1, q * 2, none⟩) (by rw [hza]; exact Nat.le_refl _) _).setCell (p := ⟨bx + 1, q * 2 + 1, none⟩) (by rw [hza]; exact Nat.le_refl _) _
                  have hstep := ht_step HTt.out
                  rw [← HQE.out] at hstep
                  have hstep2 : HT (xo, xl, xm) ch F i (T + 1) m (updF G' q o2) := by rw [HO2.out, HTEQ.out]; exact hstep
                  have HST := Lib.hid hstep2
                  clear hg8 hstep hstep2 z0 z1 zf0 zf1
                  go_wp2_with fail
                  exact ⟨⟨T + 1, _, by go_num, by have := hTM.out; omega, HST.out, SG8.out, SF8.out, HB8.out⟩, by have := hTM.out; simp only [intOf]; omega⟩
        · obtain rfl : i = ch.length + 1 := by omega
          go_wp2_with fail
          exact ⟨⟨k + 1, bx + 1, G, rfl, by go_num, by omega, hf_step HALL.out HX.out HFk.out HMi.out, HSG.out, HB.out.trans ((BWA.out.trans (HBi.out.mono BWA.out.size)).mono HB.out.size)⟩, by simp only [intOf]; omega⟩
    · obtain rfl : k = its.length := by omega
      obtain ⟨c0, _, _, ra, rc, c1, hri⟩ := HSk.out.at (i := ch.length) (by omega)
      rw [hf_best HFk.out] at c0 c1 hri
      have hrb : wr.heap[w.heap.size + 1]? = some (.cells #[.bool false, .slice none 0 0] 75 (0, 0)) := (HB.out.block _ (by rw [hz2]; omega)).trans MR.out
      have d0 : wr.cell? ⟨w.heap.size + 1, 0, none⟩ = some (.bool false) := (cell_of_row wr _ 0 _ _ _ hrb).trans rfl
      have d1 : wr.cell? ⟨w.heap.size + 1, 1, none⟩ = some (.slice none 0 0) := (cell_of_row wr _ 1 _ _ _ hrb).trans rfl
      have f0 : wr.frozen? ⟨w.heap.size + 1, 0, none⟩ = false := frozen_of_row wr _ 0 _ _ hrb
      have f1 : wr.frozen? ⟨w.heap.size + 1, 1, none⟩ = false := frozen_of_row wr _ 1 _ _ hrb
      have HRI := Lib.hid hri
      have hro : wr.ownsRow (w.heap.size + 1) 75 2 (.slice (some ⟨w.heap.size + 1, 0, none⟩) 1 1) 1 [.bool false, .slice none 0 0] := ⟨rfl, .inr ⟨w.heap.size + 1, 1, _, rfl, Nat.le_refl _, hrb, Nat.le_refl _, by decide, rfl, rfl⟩⟩
      have HRO := Lib.hid hro
      have HBw : Hid (Below w.heap.size w wr) := W2B.out.trans (HB.out.mono W2B.out.size)
      have e0 : (0 : Int) ≤ (ch.length : Int) := by omega
      have e1 : (ch.length : Int) < (ch.length : Int) + 1 := by omega
      clear hrb hri hro
      go_wp2_with fail
      have hg : wr.grownBy ((wr.setCell ⟨w.heap.size + 1, 0, none⟩ (.bool (best (divs its ch)).isSome)).setCell ⟨w.heap.size + 1, 1, none⟩ (.slice ra ((best (divs its ch)).getD []).length rc)) (some (w.heap.size + 1)) := grown_set (grown_set (grownBel (Below.refl _ _) _) _ _) _ _
      have hbf : Below w.heap.size w ((wr.setCell ⟨w.heap.size + 1, 0, none⟩ (.bool (best (divs its ch)).isSome)).setCell ⟨w.heap.size + 1, 1, none⟩ (.slice ra ((best (divs its ch)).getD []).length rc)) := (HBw.out.setCell (p := ⟨w.heap.size + 1, 0, none⟩) (by simp) _).setCell (p := ⟨w.heap.size + 1, 1, none⟩) (by simp) _
      refine bodyPost_ret (v := .agg #[.bool (best (divs its ch)).isSome, .slice ra ((best (divs its ch)).getD []).length rc]) ?_ rfl ⟨_, rfl, ints_apart HRO.out (fun z hz => by simp at hz) HRI.out hg, hbf⟩
      simp [results, Tryd.results40, go_sem, *]
end Go.Proofs.YteilaajjpjhijaaDoor
namespace Go.Proofs.YteilaajjpjhijaaDoor
open Go.RowKit PSpec
theorem isBest_bet {A B : List Int → Prop} {a b : Option (List Int)} (ha : IsBest A a) (hb : IsBest B b) : IsBest (fun y => A y ∨ B y) (betO a b) := by
  cases a with
  | none => exact hb.congr fun y => ⟨.inr, fun h => h.resolve_left (ha y)⟩
  | some m =>
    cases b with
    | none => exact ha.congr fun y => ⟨.inl, fun h => h.resolve_right (hb y)⟩
    | some n =>
      simp only [betO]
      by_cases h : befB n m = true
      · rw [if_pos h]
        refine ⟨.inr hb.1, fun y hy => ?_⟩
        rcases hy with hy | hy
        · cases hyn : befB y n with
          | false => rfl
          | true => have := ha.2 y hy; rw [befB_trans hyn h] at this; cases this
        · exact hb.2 y hy
      · rw [if_neg h]
        have h' : befB n m = false := by simpa using h
        refine ⟨.inl ha.1, fun y hy => ?_⟩
        rcases hy with hy | hy
        · exact ha.2 y hy
        · exact nb_trans h' (hb.2 y hy)
set_option maxRecDepth 100000 in
set_option maxHeartbeats 4000000 in
theorem f16_bad (pv cv : Value) (p : Pr) (op : Int) (ch : List Int) (w : World) (hp : Rules w pv p) (hcv : Ints w cv ch) (hbad : (validB p && opB op && childrenB ch) = false) :
    Calls Tryd.prog 16 #[.agg #[pv], .int .i64 op, cv] w (MatchPost p op ch w) := by
  have hm : matchF p op ch = ([], 2) := by unfold matchF; rw [hbad]; rfl
  have hf : ∀ w', Below w.heap.size w w' → MatchPost p op ch w (.returned (.tuple #[.slice none 0 0, .int .i64 2])) w' := fun w' hb => ⟨.slice none 0 0, by rw [hm], by rw [hm]; exact ints_nil _, hb⟩
  have HF := Lib.hid hf
  clear hf hm
  obtain ⟨pa, pc, hpe⟩ : ∃ a c, pv = .slice a p.length c := by obtain ⟨a, c, e, _⟩ := hp; exact ⟨a, c, e⟩
  obtain ⟨ca, cc, hce⟩ := ints_slice hcv
  subst hpe hce
  have b0 : Below w.heap.size w (w.alloc (.cells #[.slice pa p.length pc] 24)) := (Below.refl _ _).alloc (Nat.le_refl _) _
  have HP := Lib.hid (hp.below b0)
  have HC := Lib.hid (hcv.below b0)
  have B0 := Lib.hid b0
  clear hp hcv b0
  cases hv : validB p with
  | false =>
    have HV := Lib.hid (fun W h => f21_any (.slice pa p.length pc) p W h)
    rw [hv] at HV
    clear hv hbad
    go_enter Tryd.func16, Tryd.ntmps16
    go_wp2_with (go_at_call 21; refine (HV.out _ HP.out).mono ?_; rintro e w1 ⟨rfl, hb1⟩)
    go_ret2
    exact HF.out _ (B0.out.trans (hb1.mono B0.out.size))
  | true =>
    have HV := Lib.hid (fun W h => f21_any (.slice pa p.length pc) p W h)
    rw [hv] at HV
    cases ho : opB op with
    | false =>
      have HO := Lib.hid (fun W => f37_any op W)
      rw [ho] at HO
      clear hv hbad ho
      go_enter Tryd.func16, Tryd.ntmps16
      go_wp2_with (first | (go_at_call 21; refine (HV.out _ HP.out).mono ?_; rintro e w1 ⟨rfl, hb1⟩) | (go_at_call 37; refine (HO.out _).mono ?_; rintro e w2 ⟨rfl, rfl⟩))
      go_ret2
      exact HF.out _ (B0.out.trans (hb1.mono B0.out.size))
    | true =>
      have HO := Lib.hid (fun W => f37_any op W)
      rw [ho] at HO
      have hc : childrenB ch = false := by rw [hv, ho] at hbad; simpa using hbad
      have HCH := Lib.hid (fun W h => f38_any (.slice ca ch.length cc) ch W h)
      rw [hc] at HCH
      clear hv hbad ho hc
      go_enter Tryd.func16, Tryd.ntmps16
      go_wp2_with (first | (go_at_call 21; refine (HV.out _ HP.out).mono ?_; rintro e w1 ⟨rfl, hb1⟩; have HC1 := Lib.hid (HC.out.below hb1)) | (go_at_call 37; refine (HO.out _).mono ?_; rintro e w2 ⟨rfl, rfl⟩) | (go_at_call 38; refine (HCH.out _ HC1.out).mono ?_; rintro e w2 ⟨rfl, rfl⟩))
      go_ret2
      exact HF.out _ (B0.out.trans (hb1.mono B0.out.size))
/-- the best state of the first rules -/
structure RM (p : Pr) (op : Int) (ch : List Int) (i r : Nat) (o : Option (List Int)) (u : Value) (b : Nat) (wa W : World) : Prop where
  best : IsBest (fun y => ∃ q, q ∈ p.take i ∧ q.1 = op ∧ y ∈ divs q.2 ch) o
  cnt : 0 < r ↔ ∃ q, q ∈ p.take i ∧ q.1 = op
  blk : W.heap[b]? = some (.cells #[.bool o.isSome, u] 75 (0, 0))
  ints : Ints W u (o.getD [])
  low : Below b wa W
theorem rm_end {p : Pr} {op : Int} {ch : List Int} {r : Nat} {o : Option (List Int)} {u : Value} {b : Nat} {wa W : World} (hG : Good p op ch) (h : RM p op ch p.length r o u b wa W) :
    matchF p op ch = if 0 < r ∧ o.isSome = false then ([], 130) else (o.getD [], 0) := by
  rw [match_good hG]
  have hb : best (divsAll (rulesOf p op) ch) = o := by
    refine (best_is _).uniq (h.best.congr fun y => ?_)
    rw [List.take_length]
    simp only [divsAll, rulesOf, List.mem_flatMap, List.mem_filter, decide_eq_true_eq]
    constructor
    · rintro ⟨q, h1, h2, h3⟩; exact ⟨q, ⟨h1, h2⟩, h3⟩
    · rintro ⟨q, ⟨h1, h2⟩, h3⟩; exact ⟨q, h1, h2, h3⟩
  have hc := h.cnt
  rw [List.take_length] at hc
  rw [hb]
  by_cases hr : 0 < r
  · obtain ⟨q, hq, he⟩ := hc.1 hr
    have hmem : q ∈ rulesOf p op := List.mem_filter.2 ⟨hq, by simpa using he⟩
    rw [if_neg (by intro h; rw [List.isEmpty_iff] at h; rw [h] at hmem; cases hmem)]
    cases o with
    | none => simp [hr]
    | some m => simp
  · have hn : rulesOf p op = [] := by
      cases h : rulesOf p op with
      | nil => rfl
      | cons q l =>
        have hmem : q ∈ rulesOf p op := by rw [h]; simp
        obtain ⟨h1, h2⟩ := List.mem_filter.1 hmem
        exact absurd (hc.2 ⟨q, h1, by simpa using h2⟩) hr
    have ho : o = none := by
      rw [← hb, hn]; rfl
    rw [hn, ho]
    simp [hr]
theorem two_set {W : World} {b : Nat} {x y x' y' : Value} {t : TypeId} (h : W.heap[b]? = some (.cells #[x, y] t (0, 0))) : ((W.setCell ⟨b, 0, none⟩ x').setCell ⟨b, 1, none⟩ y').heap[b]? = some (.cells #[x', y'] t (0, 0)) := by
  have hlt := heap_lt h
  have hg : W.heap[b] = .cells #[x, y] t (0, 0) := by simpa [Array.getElem?_eq_getElem hlt] using h
  have h1 : (W.setCell ⟨b, 0, none⟩ x').heap[b]? = some (.cells #[x', y] t (0, 0)) := by
    show (W.heap.modify b _)[b]? = _
    rw [Array.getElem?_eq_getElem (by simpa using hlt), Array.getElem_modify_self, hg]
    rfl
  have hlt1 := heap_lt h1
  have hg1 : (W.setCell ⟨b, 0, none⟩ x').heap[b] = .cells #[x', y] t (0, 0) := by simpa [Array.getElem?_eq_getElem hlt1] using h1
  show ((W.setCell ⟨b, 0, none⟩ x').heap.modify b _)[b]? = _
  rw [Array.getElem?_eq_getElem (by simpa using hlt1), Array.getElem_modify_self, hg1]
  rfl
theorem RM.skip {p : Pr} {op : Int} {ch : List Int} {i r : Nat} {o : Option (List Int)} {u : Value} {b : Nat} {wa W : World} (h : RM p op ch i r o u b wa W) {q : Rl} (hq : p[i]? = some q) (hne : ¬ q.1 = op) : RM p op ch (i + 1) r o u b wa W := by
  have e : p.take (i + 1) = p.take i ++ [q] := by rw [List.take_add_one, hq]; rfl
  obtain ⟨h1, h2, h3, h4, h5⟩ := h
  refine ⟨h1.congr fun y => ?_, h2.trans ?_, h3, h4, h5⟩
  · rw [e]
    constructor
    · rintro ⟨z, hz, k⟩; exact ⟨z, List.mem_append_left _ hz, k⟩
    · rintro ⟨z, hz, k1, k2⟩
      rcases List.mem_append.1 hz with hz | hz
      · exact ⟨z, hz, k1, k2⟩
      · obtain rfl : z = q := by simpa using hz
        exact absurd k1 hne
  · rw [e]
    constructor
    · rintro ⟨z, hz, k⟩; exact ⟨z, List.mem_append_left _ hz, k⟩
    · rintro ⟨z, hz, k1⟩
      rcases List.mem_append.1 hz with hz | hz
      · exact ⟨z, hz, k1⟩
      · obtain rfl : z = q := by simpa using hz
        exact absurd k1 hne
theorem RM.step {p : Pr} {op : Int} {ch : List Int} {i r : Nat} {o : Option (List Int)} {u : Value} {b : Nat} {wa W W2 : World} (h : RM p op ch i r o u b wa W) (_hab : wa.heap.size = b) {q : Rl} (hq : p[i]? = some q) (he : q.1 = op) (hb : Below W.heap.size W W2) {r3 : Value} (hr : Ints W2 r3 ((betO o (PSpec.best (divs q.2 ch))).getD [])) :
    RM p op ch (i + 1) (r + 1) (betO o (PSpec.best (divs q.2 ch))) r3 b wa ((W2.setCell ⟨b, 0, none⟩ (.bool (betO o (PSpec.best (divs q.2 ch))).isSome)).setCell ⟨b, 1, none⟩ r3) := by
  have e : p.take (i + 1) = p.take i ++ [q] := by rw [List.take_add_one, hq]; rfl
  obtain ⟨h1, h2, h3, h4, h5⟩ := h
  have h3' := (hb.block b (heap_lt h3)).trans h3
  obtain ⟨ua, uc, rfl⟩ := ints_slice h4
  have ho : W2.ownsRow b 75 2 (.slice (some ⟨b, 0, none⟩) 1 1) 1 [.bool o.isSome, .slice ua (o.getD []).length uc] := ⟨rfl, .inr ⟨b, 1, _, rfl, Nat.le_refl _, h3', Nat.le_refl _, by decide, rfl, rfl⟩⟩
  have hg : W2.grownBy ((W2.setCell ⟨b, 0, none⟩ (.bool (betO o (PSpec.best (divs q.2 ch))).isSome)).setCell ⟨b, 1, none⟩ r3) (some b) := grown_set (grown_set (grownBel (Below.refl _ _) _) _ _) _ _
  have hbw : b ≤ W.heap.size := Nat.le_of_lt (heap_lt h3)
  refine ⟨(isBest_bet h1 (best_is (divs q.2 ch))).congr fun y => ?_, ⟨fun _ => ⟨q, by rw [e]; simp, he⟩, fun _ => by omega⟩, two_set h3', ints_apart ho (fun z hz => by simp at hz) hr hg, ((h5.trans (hb.mono hbw)).setCell (p := ⟨b, 0, none⟩) (Nat.le_refl _) _).setCell (p := ⟨b, 1, none⟩) (Nat.le_refl _) _⟩
  rw [e]
  constructor
  · rintro (⟨z, hz, k⟩ | hy)
    · exact ⟨z, List.mem_append_left _ hz, k⟩
    · exact ⟨q, by simp, he, hy⟩
  · rintro ⟨z, hz, k1, k2⟩
    rcases List.mem_append.1 hz with hz | hz
    · exact .inl ⟨z, hz, k1, k2⟩
    · obtain rfl : z = q := by simpa using hz
      exact .inr k2
set_option maxRecDepth 100000 in
set_option maxHeartbeats 8000000 in
theorem f16_good (pv cv : Value) (p : Pr) (op : Int) (ch : List Int) (w : World) (hp : Rules w pv p) (hcv : Ints w cv ch) (hG : Good p op ch) :
    Calls Tryd.prog 16 #[.agg #[pv], .int .i64 op, cv] w (MatchPost p op ch w) := by
  obtain ⟨pa, pc, hpe⟩ : ∃ a c, pv = .slice a p.length c := by obtain ⟨a, c, e, _⟩ := hp; exact ⟨a, c, e⟩
  obtain ⟨ca, cc, hce⟩ := ints_slice hcv
  subst hpe hce
  have b0 : Below w.heap.size w (w.alloc (.cells #[.slice pa p.length pc] 24)) := (Below.refl _ _).alloc (Nat.le_refl _) _
  have HP := Lib.hid (hp.below b0)
  have HC := Lib.hid (hcv.below b0)
  have B0 := Lib.hid b0
  have hpl : p.length ≤ 24 := by
    have := hG.v
    unfold validB at this
    simp only [Bool.and_eq_true, decide_eq_true_eq] at this
    exact this.1
  have HV := Lib.hid (fun W h => f21_any (.slice pa p.length pc) p W h)
  rw [hG.v] at HV
  have HO := Lib.hid (fun W => f37_any op W)
  rw [hG.o] at HO
  have HCH := Lib.hid (fun W h => f38_any (.slice ca ch.length cc) ch W h)
  rw [hG.c] at HCH
  have HGG := Lib.hid hG
  have c0 : (w.alloc (.cells #[.slice pa p.length pc] 24)).cell? ⟨w.heap.size, 0, none⟩ = some (.slice pa p.length pc) := by go_simp
  have C0 := Lib.hid c0
  clear hp hcv b0 hG c0
  go_enter Tryd.func16, Tryd.ntmps16
  go_wp2_with (first | (go_at_call 21; refine (HV.out _ HP.out).mono ?_; rintro e w1 ⟨rfl, hb1⟩; have HB1 := Lib.hid (B0.out.trans (hb1.mono B0.out.size)); have HP1 := Lib.hid (HP.out.below hb1); have c1 := keeps_of_below hb1 _ _ C0.out; have HC1 := Lib.hid (HC.out.below hb1); clear hb1) | (go_at_call 37; refine (HO.out _).mono ?_; rintro e w2 ⟨rfl, rfl⟩) | (go_at_call 38; refine (HCH.out _ HC1.out).mono ?_; rintro e w2 ⟨rfl, rfl⟩))
  have hst : RM p op ch 0 0 none (.slice none 0 0) w1.heap.size w1 (w1.alloc (.cells #[.bool false, .slice none 0 0] 75)) :=
    ⟨fun y ⟨q, hq, _⟩ => by simp at hq, ⟨fun h => by omega, fun ⟨q, hq, _⟩ => by simp at hq⟩, World.alloc_heap_new _ _, ints_nil _, (Below.refl _ _).alloc (Nat.le_refl _) _⟩
  have HST := Lib.hid hst
  have C1 := Lib.hid c1
  obtain ⟨b, hbeq⟩ : ∃ b, w1.heap.size = b := ⟨_, rfl⟩
  have HBEQ := Lib.hid hbeq
  have hlt0 : w.heap.size < b := by rw [← hbeq]; exact World.block_lt_of_cell? _ _ c1
  rw [hbeq] at HST ⊢
  obtain ⟨pa', pc', e, pz1, pz2, pz3⟩ := HP1.out
  obtain ⟨rfl, rfl⟩ : pa = pa' ∧ pc = pc' := by simpa using e
  unfold maxLen at pz2
  have HZ3 := Lib.hid pz3
  clear hst hbeq c1 e pz3 HV HO HCH
  go_loopw [8, 10] (fun v8 v10 wr => ∃ (i r : Nat) (o : Option (List Int)) (u : Value), v8 = .int .i64 r ∧ v10 = .int .i64 i ∧ i ≤ p.length ∧ r ≤ i ∧ RM p op ch i r o u b w1 wr) (fun _ v10 _ => p.length - (intOf v10).toNat)
  case atStart => exact ⟨0, 0, none, _, rfl, rfl, Nat.zero_le _, Nat.le_refl _, HST.out⟩
  case round =>
    obtain ⟨i, r, oo, u, rfl, rfl, hi, hri, hrm⟩ := hrel
    obtain ⟨ua, uc, rfl⟩ := ints_slice hrm.ints
    have HRMM := Lib.hid hrm
    have hlow : Below w1.heap.size w1 wr := by rw [HBEQ.out]; exact hrm.low
    have d0 : wr.cell? ⟨w.heap.size, 0, none⟩ = some (.slice pa p.length pc) := keeps_of_below hlow _ _ C1.out
    have m0 : wr.cell? ⟨b, 0, none⟩ = some (.bool oo.isSome) := (cell_of_row wr b 0 _ _ _ hrm.blk).trans rfl
    have m1 : wr.cell? ⟨b, 1, none⟩ = some (.slice ua (oo.getD []).length uc) := (cell_of_row wr b 1 _ _ _ hrm.blk).trans rfl
    have HUI := Lib.hid hrm.ints
    have HCr := Lib.hid (HC1.out.below hlow)
    have HLOW := Lib.hid hlow
    clear hrm hlow
    by_cases hip : i < p.length
    · obtain ⟨q, hq⟩ := get_some p i hip
      obtain ⟨pb, po, rfl, hcells⟩ := HZ3.out (by rintro rfl; simp at hq)
      obtain ⟨e0, iv, e1, hits⟩ := (hcells i q hq).keep (keeps_of_below HLOW.out)
      have hqB : ruleB q = true := by
        have := HGG.out.v
        unfold validB at this
        simp only [Bool.and_eq_true] at this
        exact List.all_eq_true.1 this.2 q (List.mem_of_getElem? hq)
      have hqb : q.2.length ≤ 6 ∧ q.2.all itB = true := by
        unfold ruleB at hqB
        simp only [Bool.and_eq_true, decide_eq_true_eq] at hqB
        exact ⟨hqB.1.2, hqB.2⟩
      have hcl : ch.length ≤ 31 := by
        have := HGG.out.c
        unfold childrenB at this
        simp only [Bool.and_eq_true, decide_eq_true_eq] at this
        omega
      have HCL := Lib.hid hcl
      have HQ := Lib.hid hq
      have HQB := Lib.hid hqb
      obtain ⟨ia, ic, hie⟩ : ∃ a c, iv = .slice a q.2.length c := by obtain ⟨a, c, e, _⟩ := hits; exact ⟨a, c, e⟩
      subst hie
      have HQI := Lib.hid hits
      obtain ⟨qo, qi⟩ := q
      simp only at e0 e1
      have i0' : (0 : Int) ≤ (i : Int) := by omega
      have i1' : (i : Int) < (p.length : Int) := by omega
      clear hq hcells hits hqB hqb hcl
      by_cases hqo : qo = op
      · subst hqo
        go_wp2_with fail
        refine wp_region_ordQ 9 [(0, true), (1, true), (2, true), (3, true), (4, true), (5, true), (6, true), (7, false), (8, false), (9, false)] (fun w' => w'.cell? ⟨w.heap.size, 0, none⟩ = some (.slice (some ⟨pb, po, none⟩) p.length pc) ∧ w'.cell? ⟨b, 0, none⟩ = some (.bool oo.isSome) ∧ w'.cell? ⟨b, 1, none⟩ = some (.slice ua (oo.getD []).length uc) ∧ w'.cell? ⟨pb, po + i * 2, none⟩ = some (.int .i64 qo) ∧ w'.cell? ⟨pb, po + i * 2 + 1, none⟩ = some (.slice ia qi.length ic))
          (by kernel_rfl) (by kernel_rfl) (by kernel_rfl) rfl (by kernel_rfl) (fun _ _ d _ _ h => by cases d <;> exact h) ⟨d0, m0, m1, e0, e1⟩ ?_
        refine wpP_light _ rfl rfl _ (fun w' hS => by obtain ⟨s1, s2, s3, s4, s5⟩ := hS; go_simp; rfl) ?_
        refine wpP_light _ rfl rfl _ (fun w' hS => by go_simp; rfl) ?_
        refine wpP_light _ rfl rfl _ (fun w' hS => by obtain ⟨s1, s2, s3, s4, s5⟩ := hS; go_simp; rfl) ?_
        go_simp
        refine wpP_light _ rfl rfl _ (fun w' hS => by go_simp; rfl) ?_
        refine wpP_light _ rfl rfl _ (fun w' hS => by go_simp; rfl) ?_
        go_simp
        refine wpP_light _ rfl rfl _ (fun w' hS => by obtain ⟨s1, s2, s3, s4, s5⟩ := hS; go_simp; rfl) ?_
        refine wpP_light _ rfl rfl _ (fun w' hS => by go_simp; rfl) ?_
        go_simp
        have bD : Below wr.heap.size wr wr.drew := (Below.refl _ _).drew
        refine wpP_heavy _ rfl rfl fun K' hK => ?_
        go_simp
        refine (f40_any qo qi ch _ _ wr.drew (HQI.out.below bD) HQB.out.2 HQB.out.1 (HCr.out.below bD) HCL.out).mono ?_
        rintro e w4 ⟨r2, rfl, hr2, hb4⟩
        obtain ⟨a4, c4, rfl⟩ := ints_slice hr2
        refine hK _ _ ⟨.inr ⟨keeps_of_below hb4 _ _ d0, keeps_of_below hb4 _ _ m0, keeps_of_below hb4 _ _ m1, keeps_of_below hb4 _ _ e0, keeps_of_below hb4 _ _ e1⟩, ?_⟩
        have hbet := f39_any oo (PSpec.best (divs qi ch)) (.slice ua (oo.getD []).length uc) (.slice a4 ((PSpec.best (divs qi ch)).getD []).length c4) w4 ((HUI.out.below bD).below hb4) hr2
        have HBET := Lib.hid hbet
        have HB4 : Hid (Below wr.heap.size wr w4) := bD.trans (hb4.mono bD.size)
        clear hbet hK K' hr2 hb4
        refine wpP_heavy _ rfl rfl fun K' hK => ?_
        go_simp
        refine HBET.out.mono ?_
        rintro e w5 ⟨r3, rfl, hr3, hb5⟩
        have hb45 : Below wr.heap.size wr w5 := HB4.out.trans (hb5.mono HB4.out.size)
        refine hK _ _ ⟨.inr ⟨keeps_of_below hb45 _ _ d0, keeps_of_below hb45 _ _ m0, keeps_of_below hb45 _ _ m1, keeps_of_below hb45 _ _ e0, keeps_of_below hb45 _ _ e1⟩, ?_⟩
        have hrm2 := HRMM.out.step HBEQ.out HQ.out rfl hb45 hr3
        obtain ⟨a5, c5, rfl⟩ := ints_slice hr3
        have hblk := (hb45.block b (heap_lt HRMM.out.blk)).trans HRMM.out.blk
        have z0 : w5.cell? ⟨b, 0, none⟩ = some (.bool oo.isSome) := (cell_of_row w5 b 0 _ _ _ hblk).trans rfl
        have z1 : w5.cell? ⟨b, 1, none⟩ = some (.slice ua (oo.getD []).length uc) := (cell_of_row w5 b 1 _ _ _ hblk).trans rfl
        have zf0 : w5.frozen? ⟨b, 0, none⟩ = false := frozen_of_row w5 b 0 _ _ hblk
        have zf1 : w5.frozen? ⟨b, 1, none⟩ = false := frozen_of_row w5 b 1 _ _ hblk
        have HRM2 := Lib.hid hrm2
        obtain ⟨o3, ho3⟩ : ∃ o3, o3 = betO oo (PSpec.best (divs qi ch)) := ⟨_, rfl⟩
        rw [← ho3] at HRM2 ⊢
        clear hK K' hr3 hb5 hb45 hrm2 hblk ho3
        refine wpP_skipH _ rfl rfl ((w5.setCell ⟨b, 0, none⟩ (.bool o3.isSome)).setCell ⟨b, 1, none⟩ (.slice a5 (o3.getD []).length c5)) ?_ ⟨.inl rfl, ?_⟩
        · go_simp
        refine wpP_nil ?_
        go_wp2_with fail
        exact ⟨⟨i + 1, r + 1, o3, _, by go_num, by go_num, by omega, by omega, HRM2.out⟩, by simp only [intOf]; omega⟩
      · have dq : (qo == op) = false := by simpa using hqo
        have hsk := HRMM.out.skip HQ.out hqo
        have HSK := Lib.hid hsk
        clear hsk hqo
        go_wp2_with fail
        exact ⟨⟨i + 1, r, oo, _, rfl, by go_num, by omega, by omega, HSK.out⟩, by simp only [intOf]; omega⟩
    · obtain rfl : i = p.length := by omega
      have hend := rm_end HGG.out HRMM.out
      have HBf : Hid (Below w.heap.size w wr) := HB1.out.trans (HLOW.out.mono HB1.out.size)
      by_cases hr : 0 < r
      · cases oo with
        | none =>
          rw [if_pos ⟨hr, rfl⟩] at hend
          have HE := Lib.hid hend
          simp only [Option.isSome_none] at m0
          clear hend
          go_wp2_with fail
          go_ret2
          exact mkPost HE.out (.slice none 0 0) rfl (ints_nil _) HBf.out
        | some m =>
          rw [if_neg (by simp)] at hend
          simp only [Option.isSome_some, Option.getD_some] at m0 m1 HUI hend
          have HE := Lib.hid hend
          clear hend
          go_wp2_with fail
          go_ret2
          exact mkPost HE.out _ rfl HUI.out HBf.out
      · rw [if_neg (fun h => hr h.1)] at hend
        have HE := Lib.hid hend
        clear hend
        go_wp2_with fail
        go_ret2
        exact mkPost HE.out _ rfl HUI.out HBf.out
theorem f16_any (pv cv : Value) (p : Pr) (op : Int) (ch : List Int) (w : World) (hp : Rules w pv p) (hcv : Ints w cv ch) :
    Calls Tryd.prog 16 #[.agg #[pv], .int .i64 op, cv] w (MatchPost p op ch w) := by
  cases h : (validB p && opB op && childrenB ch) with
  | false => exact f16_bad pv cv p op ch w hp hcv h
  | true =>
    simp only [Bool.and_eq_true] at h
    exact f16_good pv cv p op ch w hp hcv ⟨h.1.1, h.1.2, h.2⟩
set_option maxHeartbeats 1000000 in
theorem f19_any (pv cv : Value) (p : Pr) (op : Int) (ch : List Int) (w : World) (hp : Rules w pv p) (hcv : Ints w cv ch) :
    Calls Tryd.prog 19 #[.agg #[pv], .int .i64 op, cv] w fun e w' => e = .returned (.bool (accB p op ch)) ∧ Below w.heap.size w w' := by
  have b0 : Below w.heap.size w (w.alloc (.cells #[pv] 24)) := (Below.refl _ _).alloc (Nat.le_refl _) _
  have HP := Lib.hid (hp.below b0)
  have HC := Lib.hid (hcv.below b0)
  have B0 := Lib.hid b0
  clear hp hcv b0
  have hcall := f16_any pv cv p op ch _ HP.out HC.out
  have HACC : Hid (accB p op ch = (decide ((matchF p op ch).2 = 0) && (matchF p op ch).1.isEmpty)) := rfl
  obtain ⟨l, er, hm⟩ : ∃ l er, matchF p op ch = (l, er) := ⟨_, _, rfl⟩
  have her := mf_err p op ch
  unfold MatchPost at hcall
  rw [hm] at hcall her HACC
  simp only at her HACC
  have HCALL := Lib.hid hcall
  clear hcall hm
  by_cases h0 : er = 0
  · subst h0
    by_cases hl : l = []
    · subst hl
      go_enter Tryd.func19, Tryd.ntmps19
      go_wp2_with (go_at_call 16; refine HCALL.out.mono ?_; rintro e w1 ⟨v, rfl, ⟨a, cap, rfl, i1, i2, i3, i4⟩, hb⟩; clear i1 i2 i3 i4)
      go_ret
      exact ⟨ret_bool (by rw [HACC.out]; rfl), B0.out.trans (hb.mono (by simp))⟩
    · have hd : decide (l.length = 0) = false := by simpa using hl
      have hd2 : ((l.length : Int) == 0) = false := by
        have : l.length ≠ 0 := by simpa using hl
        simp; omega
      have hd3 : (l.length == 0) = false := by simpa using hl
      have hd4 : l.isEmpty = false := by simpa using hl
      have HL := Lib.hid hl
      clear hl
      go_enter Tryd.func19, Tryd.ntmps19
      go_wp2_with (go_at_call 16; refine HCALL.out.mono ?_; rintro e w1 ⟨v, rfl, ⟨a, cap, rfl, i1, i2, i3, i4⟩, hb⟩; clear i1 i2 i3 i4)
      go_ret
      exact ⟨ret_bool (by rw [HACC.out, hd4]; simp), B0.out.trans (hb.mono (by simp))⟩
  · have hd : (er == 0) = false := by simpa using h0
    have HE := Lib.hid h0
    clear h0
    go_enter Tryd.func19, Tryd.ntmps19
    go_wp2_with (go_at_call 16; refine HCALL.out.mono ?_; rintro e w1 ⟨v, rfl, ⟨a, cap, rfl, i1, i2, i3, i4⟩, hb⟩; clear i1 i2 i3 i4)
    go_ret
    exact ⟨ret_bool (by rw [HACC.out]; simp [HE.out]), B0.out.trans (hb.mono (by simp))⟩
end Go.Proofs.YteilaajjpjhijaaDoor
namespace Go.Proofs.YteilaajjpjhijaaDoor
open Go.RowKit PSpec
theorem rules_slice3 {w : World} {v : Value} {p : Pr} (h : Rules w v p) : ∃ a c, v = .slice a p.length c := by
  obtain ⟨a, c, rfl, _⟩ := h; exact ⟨a, c, rfl⟩
theorem rcall {p : Pr} {op n : Int} {ch l : List Int} (hm : matchF p op ch = (l, n)) (pv cv : Value) (w : World) (hp : Rules w pv p) (hcv : Ints w cv ch) :
    Calls Tryd.prog 16 #[.agg #[pv], .int .i64 op, cv] w fun e w' => ∃ v, e = .returned (.tuple #[v, .int .i64 n]) ∧ Ints w' v l ∧ Below w.heap.size w w' := by
  have := f16_any pv cv p op ch w hp hcv
  unfold MatchPost at this
  rw [hm] at this
  exact this
set_option maxRecDepth 100000 in
set_option maxHeartbeats 16000000 in
theorem f3_any (pv xv yv cv : Value) (p0 : Pr) (n : Nat) (op : Int) (ys cs : List Int) (w : World) (hlay : Lay w) (hp : Rules w pv p0) (hx : Fours w xv n) (ho : I64 op) (hy : Ints w yv ys) (hc : Ints w cv cs) :
    Calls Tryd.prog 3 #[.agg #[pv], xv, .int .i64 op, yv, cv] w (LawPost w) := by
  obtain ⟨pa, pc, rfl⟩ := rules_slice3 hp
  obtain ⟨ca, cc, hce⟩ := ints_slice hc
  subst hce
  have b0 : Below w.heap.size w (w.alloc (.cells #[.slice pa p0.length pc] 24)) := (Below.refl _ _).alloc (Nat.le_refl _) _
  have hc0 : (w.alloc (.cells #[.slice pa p0.length pc] 24)).cell? ⟨w.heap.size, 0, none⟩ = some (.slice pa p0.length pc) := by go_simp
  obtain ⟨o4, ho4, _, hq4⟩ := pick_nat op 4 4 rfl ho (by decide) (by decide)
  have HQ4 := Lib.hid hq4
  have HX := Lib.hid hx
  have HP := Lib.hid hp
  have HY := Lib.hid hy
  have HC := Lib.hid hc
  have HLAY := Lib.hid hlay
  have B0 := Lib.hid b0
  have HC0 := Lib.hid hc0
  have HOP := Lib.hid ho
  have hcl : cs.length ≤ 9223372036854775807 ∧ cs.length ≤ cc := by
    obtain ⟨a', c', e, h1, h2, _⟩ := hc
    obtain ⟨rfl, rfl⟩ : ca = a' ∧ cc = c' := by simpa using e
    unfold maxLen at h2
    omega
  clear hx hp hlay b0 hc0 hy hc hq4 ho
  go_enter Tryd.func3, Tryd.ntmps3
  go_wp2_with fail
  refine (f10_any _ (HLAY.out.below B0.out)).mono ?_
  rintro e w1 ⟨rfl, hb1⟩
  have HB1 : Hid (Below w.heap.size w w1) := B0.out.trans (hb1.mono B0.out.size)
  have c1 : w1.cell? ⟨w.heap.size, 0, none⟩ = some (.slice pa p0.length pc) := keeps_of_below hb1 _ _ HC0.out
  clear hb1
  go_wp2_with fail
  refine (f11_any xv n w1 (HX.out.below HB1.out)).mono ?_
  rintro e w2 ⟨v2, q2, rfl, hq2, hm2, hb2⟩
  obtain ⟨a2, k2, rfl⟩ := rules_slice3 hq2
  have bA : Below w2.heap.size w2 (w2.alloc (.cells #[.slice a2 q2.length k2] 24)) := (Below.refl _ _).alloc (Nat.le_refl _) _
  have c2' : (w2.alloc (.cells #[.slice a2 q2.length k2] 24)).cell? ⟨w.heap.size, 0, none⟩ = some (.slice pa p0.length pc) := keeps_of_below bA _ _ (keeps_of_below hb2 _ _ c1)
  have c3 : (w2.alloc (.cells #[.slice a2 q2.length k2] 24)).cell? ⟨w2.heap.size, 0, none⟩ = some (.slice a2 q2.length k2) := by go_simp
  have HQ2 := Lib.hid (hq2.below bA)
  have HM2 := Lib.hid hm2
  have HB2 : Hid (Below w.heap.size w (w2.alloc (.cells #[.slice a2 q2.length k2] 24))) := HB1.out.trans ((hb2.trans (bA.mono hb2.size)).mono HB1.out.size)
  go_wp2_with fail
  obtain ⟨b11, hb11⟩ : ∃ b, b = w2.heap.size := ⟨_, rfl⟩
  obtain ⟨W2, hW2⟩ : ∃ W, W = w2.alloc (.cells #[.slice a2 q2.length k2] 24) := ⟨_, rfl⟩
  rw [← hb11] at c3
  rw [← hW2] at c2' c3 HQ2 HB2
  rw [← hW2, ← hb11]
  clear hq2 hm2 bA hb2 hW2 hb11 c1
  refine wp_region_ord [(0, true), (2, true), (5, true), (1, false), (3, false), (4, true)] (fun w' => w'.cell? ⟨w.heap.size, 0, none⟩ = some (.slice pa p0.length pc) ∧ w'.cell? ⟨b11, 0, none⟩ = some (.slice a2 q2.length k2))
    (by kernel_rfl) (by kernel_rfl) rfl (by kernel_rfl) (fun _ _ d _ _ h => by cases d <;> exact h) ⟨c2', c3⟩ ?_
  refine wpO_light _ rfl rfl _ (fun w' hS => by obtain ⟨s1, s2⟩ := hS; go_simp; rfl) ?_
  refine wpO_light _ rfl rfl _ (fun w' hS => by obtain ⟨s1, s2⟩ := hS; go_simp; rfl) ?_
  refine wpO_light _ rfl rfl _ (fun w' hS => by go_simp; rfl) ?_
  go_simp
  have bD : Below W2.heap.size W2 W2.drew := (Below.refl _ _).drew
  refine wpO_heavy _ rfl rfl fun K' hK => ?_
  go_simp
  refine (f12_any _ p0 W2.drew ((HP.out.below HB2.out).below bD)).mono ?_
  rintro e w3 ⟨v1, q1, rfl, hq1, hb3⟩
  obtain ⟨a1, k1, rfl⟩ := rules_slice3 hq1
  have b23 : Below W2.heap.size W2 w3 := bD.trans (hb3.mono bD.size)
  refine hK _ _ ⟨⟨keeps_of_below b23 _ _ c2', keeps_of_below b23 _ _ c3⟩, ?_⟩
  clear hK K'
  go_simp
  refine wpO_heavy _ rfl rfl fun K' hK => ?_
  go_simp
  have bT : Below w3.heap.size w3 (w3.alloc (.cells #[.slice a1 q1.length k1, .slice a2 q2.length k2] 24)) := (Below.refl _ _).alloc (Nat.le_refl _) _
  refine hK _ _ ⟨⟨keeps_of_below bT _ _ (keeps_of_below b23 _ _ c2'), keeps_of_below bT _ _ (keeps_of_below b23 _ _ c3)⟩, ?_⟩
  clear hK K'
  refine wpO_light _ rfl rfl _ (fun w' hS => by go_simp; rfl) ?_
  go_simp
  refine wpO_nil ?_
  obtain ⟨gA, hgA⟩ : ∃ g, g = w3.heap.size := ⟨_, rfl⟩
  obtain ⟨wA, hwA⟩ : ∃ W, W = w3.alloc (.cells #[.slice a1 q1.length k1, .slice a2 q2.length k2] 24) := ⟨_, rfl⟩
  have hcA : wA.cell? ⟨gA, 0, none⟩ = some (.slice a1 q1.length k1) ∧ wA.cell? ⟨gA, 1, none⟩ = some (.slice a2 q2.length k2) := by
    rw [hwA, hgA]; constructor <;> go_simp
  rw [← hwA] at bT
  rw [← hwA, ← hgA]
  have CA := Lib.hid hcA
  have b2A : Below W2.heap.size W2 wA := b23.trans (bT.mono b23.size)
  have HBA : Hid (Below w.heap.size w wA) := HB2.out.trans (b2A.mono HB2.out.size)
  have R1 := Lib.hid (hq1.below bT)
  have R2 := Lib.hid (HQ2.out.below b2A)
  have C11 := Lib.hid (keeps_of_below b2A _ _ c3)
  clear hcA hwA hgA bT b23 b2A hb3 hq1 bD c2' c3 HQ2 HB2 HB1 B0 HC0 HP HX HLAY
  go_wp2_with fail
  go_loopw [31] (fun v wr => ∃ k : Nat, v = .int .i64 k ∧ k ≤ 2 ∧ Below wA.heap.size wA wr) (fun v _ => 2 - (intOf v).toNat)
  case atStart => exact ⟨0, rfl, by omega, Below.refl _ _⟩
  case round =>
    obtain ⟨k, rfl, hk, hb⟩ := hrel
    have HBR := Lib.hid hb
    clear hb
    by_cases hk2 : k = 2
    · subst hk2
      go_wp2_with fail
      go_ret
      exact ⟨rfl, HBA.out.trans (HBR.out.mono HBA.out.size)⟩
    · have hlt : (k : Int) < 2 := by omega
      have k0 : (0 : Int) ≤ (k : Int) := by omega
      obtain ⟨qa, qc, P, hP, hcell⟩ : ∃ (qa : Option Addr) (qc : Nat) (P : Pr), Rules wA (.slice qa P.length qc) P ∧ wA.cell? ⟨gA, k, none⟩ = some (.slice qa P.length qc) := by
        rcases Nat.lt_or_ge k 1 with h | h
        · obtain rfl : k = 0 := by omega
          exact ⟨a1, k1, q1, R1.out, CA.out.1⟩
        · obtain rfl : k = 1 := by omega
          exact ⟨a2, k2, q2, R2.out, CA.out.2⟩
      have c4 : wr.cell? ⟨gA, k, none⟩ = some (.slice qa P.length qc) := keeps_of_below HBR.out _ _ hcell
      have HPA := Lib.hid hP
      clear hP hcell
      go_wp2_with (go_at_call 13; with_reducible refine (HQ4.out _).mono ?_; rintro e w5 ⟨rfl, rfl⟩)
      obtain ⟨b13, hb13⟩ : ∃ b, b = wr.heap.size := ⟨_, rfl⟩
      obtain ⟨wB, hwB⟩ : ∃ W, W = (wr.alloc (.cells #[.slice qa P.length qc] 24)).alloc (.cells #[.int .i64 op, .int .i64 (o4 : Int)] 3) := ⟨_, rfl⟩
      have e13 : wB.cell? ⟨b13, 0, none⟩ = some (.slice qa P.length qc) := by rw [hwB, hb13]; go_simp
      have ei : wB.cell? ⟨b13 + 1, 0, none⟩ = some (.int .i64 op) ∧ wB.cell? ⟨b13 + 1, 1, none⟩ = some (.int .i64 (o4 : Int)) := by rw [hwB, hb13]; constructor <;> go_simp
      have bB : Below wr.heap.size wr wB := by rw [hwB]; exact ((Below.refl _ _).alloc (Nat.le_refl _) _).alloc (by simp) _
      rw [← hwB, ← hb13]
      have HBB : Hid (Below wA.heap.size wA wB) := HBR.out.trans (bB.mono HBR.out.size)
      have E13 := Lib.hid e13
      have EI := Lib.hid ei
      clear hwB hb13 e13 ei bB c4 HBR
      go_loopw [40] (fun v wr => ∃ j : Nat, v = .int .i64 j ∧ j ≤ 2 ∧ Below wB.heap.size wB wr) (fun v _ => 2 - (intOf v).toNat)
      case atStart => exact ⟨0, rfl, by omega, Below.refl _ _⟩
      case round =>
        obtain ⟨j, rfl, hj, hb⟩ := hrel
        have HBj := Lib.hid hb
        clear hb
        by_cases hj2 : j = 2
        · subst hj2
          have d13 : wr.cell? ⟨b13, 0, none⟩ = some (.slice qa P.length qc) := keeps_of_below HBj.out _ _ E13.out
          have HPr := Lib.hid ((HPA.out.below HBB.out).below HBj.out)
          have HBr : Hid (Below wA.heap.size wA wr) := HBB.out.trans (HBj.out.mono HBB.out.size)
          go_wp2_with fail
          have HV20 := Lib.hid (fun W h => f20_any (.slice qa P.length qc) P W h)
          have HV21 := Lib.hid (fun W h => f21_any (.slice qa P.length qc) P W h)
          obtain ⟨vb, hvb⟩ : ∃ vb, validB P = vb := ⟨_, rfl⟩
          rw [hvb] at HV20 HV21
          clear hvb
          refine wp_region_ord [(0, true), (2, true), (1, false), (3, false), (4, true)] (fun w' => w'.cell? ⟨b13, 0, none⟩ = some (.slice qa P.length qc))
            (by kernel_rfl) (by kernel_rfl) rfl (by kernel_rfl) (fun _ _ d _ _ h => by cases d <;> exact h) d13 ?_
          refine wpO_light _ rfl rfl _ (fun w' hS => by go_simp; rfl) ?_
          refine wpO_light _ rfl rfl _ (fun w' hS => by go_simp; rfl) ?_
          go_simp
          have bD : Below wr.heap.size wr wr.drew := (Below.refl _ _).drew
          refine wpO_heavy _ rfl rfl fun K' hK => ?_
          go_simp
          refine (HV20.out wr.drew (HPr.out.below bD)).mono ?_
          rintro e w9 ⟨rfl, hb9⟩
          have b9 : Below wr.heap.size wr w9 := bD.trans (hb9.mono bD.size)
          refine hK _ _ ⟨keeps_of_below b9 _ _ d13, ?_⟩
          clear hK K'
          go_simp
          refine wpO_heavy _ rfl rfl fun K' hK => ?_
          go_simp
          refine (HV21.out w9 (HPr.out.below b9)).mono ?_
          rintro e w10 ⟨rfl, hb10⟩
          have b10 : Below wr.heap.size wr w10 := b9.trans (hb10.mono b9.size)
          refine hK _ _ ⟨keeps_of_below b10 _ _ d13, ?_⟩
          clear hK K'
          go_simp
          refine wpO_light _ rfl rfl _ (fun w' hS => by go_simp; rfl) ?_
          go_simp
          refine wpO_nil ?_
          have HB10 : Hid (Below wA.heap.size wA w10) := HBr.out.trans (b10.mono HBr.out.size)
          clear b9 b10 hb9 hb10 bD
          go_wp2_with fail
          exact ⟨⟨k + 1, by go_num, by omega, HB10.out⟩, by simp only [intOf]; omega⟩
        · have hjlt : (j : Int) < 2 := by omega
          have j0 : (0 : Int) ≤ (j : Int) := by omega
          obtain ⟨o, hcell⟩ : ∃ o : Int, wB.cell? ⟨b13 + 1, j, none⟩ = some (.int .i64 o) := by
            rcases Nat.lt_or_ge j 1 with h | h
            · obtain rfl : j = 0 := by omega
              exact ⟨_, EI.out.1⟩
            · obtain rfl : j = 1 := by omega
              exact ⟨_, EI.out.2⟩
          have c5 : wr.cell? ⟨b13 + 1, j, none⟩ = some (.int .i64 o) := keeps_of_below HBj.out _ _ hcell
          have HBr : Hid (Below wA.heap.size wA wr) := HBB.out.trans (HBj.out.mono HBB.out.size)
          have c11 : wr.cell? ⟨b11, 0, none⟩ = some (.slice a2 q2.length k2) := keeps_of_below HBr.out _ _ C11.out
          obtain ⟨mk, hmk1, hmk2, hmk3⟩ : ∃ mk : Nat, min (cs.length : Int) 31 = (mk : Int) ∧ mk ≤ cs.length ∧ mk ≤ 31 := ⟨min cs.length 31, by omega, by omega, by omega⟩
          have hmkc : (mk : Int) ≤ (cc : Int) := by omega
          have hmk0 : (0 : Int) ≤ (mk : Int) := by omega
          clear hcell
          go_wp2_with fail
          refine wp_region_ord [(0, true), (1, true), (2, true), (4, true), (5, true), (6, true), (7, true), (8, true), (11, true), (3, false), (9, false), (10, true)] (fun w' => w'.cell? ⟨b11, 0, none⟩ = some (.slice a2 q2.length k2))
            (by kernel_rfl) (by kernel_rfl) rfl (by kernel_rfl) (fun _ _ d _ _ h => by cases d <;> exact h) c11 ?_
          refine wpO_light _ rfl rfl _ (fun w' hS => by go_simp; rfl) ?_
          refine wpO_light _ rfl rfl _ (fun w' hS => by go_simp; rfl) ?_
          refine wpO_light _ rfl rfl _ (fun w' hS => by go_simp; rfl) ?_
          go_simp
          refine wpO_light _ rfl rfl _ (fun w' hS => by go_simp; rfl) ?_
          refine wpO_light _ rfl rfl _ (fun w' hS => by go_simp; rfl) ?_
          refine wpO_light _ rfl rfl _ (fun w' hS => by go_simp; rfl) ?_
          go_simp
          refine wpO_light _ rfl rfl _ (fun w' hS => by go_simp; rfl) ?_
          go_simp
          refine wpO_light _ rfl rfl _ (fun w' hS => by go_simp; rfl) ?_
          refine wpO_light _ rfl rfl _ (fun w' hS => by go_simp; rfl) ?_
          go_simp
          have bD : Below wr.heap.size wr wr.drew := (Below.refl _ _).drew
          refine wpO_heavy _ rfl rfl fun K' hK => ?_
          go_simp
          refine (f14_any (.slice a2 q2.length k2) yv q2 o ys wr.drew ((R2.out.below HBr.out).below bD) ((HY.out.below (HBA.out.trans (HBr.out.mono HBA.out.size))).below bD) HM2.out.valid HM2.out.ops).mono ?_
          rintro e w6 ⟨lv, L1, rfl, hL1, _, hl12, hb6⟩
          obtain ⟨l1, lc1, rfl⟩ := ints_slice hL1
          have b6 : Below wr.heap.size wr w6 := bD.trans (hb6.mono bD.size)
          refine hK _ _ ⟨keeps_of_below b6 _ _ c11, ?_⟩
          clear hK K'
          go_simp
          refine wpO_heavy _ rfl rfl fun K' hK => ?_
          go_simp
          have bC : Below w6.heap.size w6 (w6.alloc (.cells #[.slice l1 L1.length lc1, .slice ca mk cc] 26)) := (Below.refl _ _).alloc (Nat.le_refl _) _
          refine hK _ _ ⟨keeps_of_below bC _ _ (keeps_of_below b6 _ _ c11), ?_⟩
          clear hK K'
          refine wpO_light _ rfl rfl _ (fun w' hS => by go_simp; rfl) ?_
          go_simp
          refine wpO_nil ?_
          obtain ⟨gC, hgC⟩ : ∃ g, g = w6.heap.size := ⟨_, rfl⟩
          obtain ⟨wC, hwC⟩ : ∃ W, W = w6.alloc (.cells #[.slice l1 L1.length lc1, .slice ca mk cc] 26) := ⟨_, rfl⟩
          have hcC : wC.cell? ⟨gC, 0, none⟩ = some (.slice l1 L1.length lc1) ∧ wC.cell? ⟨gC, 1, none⟩ = some (.slice ca mk cc) := by
            rw [hwC, hgC]; constructor <;> go_simp
          rw [← hwC] at bC
          rw [← hwC, ← hgC]
          have b6C : Below wr.heap.size wr wC := b6.trans (bC.mono b6.size)
          have HBC : Hid (Below wB.heap.size wB wC) := HBj.out.trans (b6C.mono HBj.out.size)
          have HL1 := Lib.hid (hL1.below bC)
          have HL2 := Lib.hid ((HC.out.take ca mk hmk2).below (HBA.out.trans ((HBB.out.trans (HBC.out.mono HBB.out.size)).mono HBA.out.size)))
          have CC := Lib.hid hcC
          have hml : (cs.take mk).length = mk := by rw [List.length_take]; omega
          have HML := Lib.hid hml
          clear hcC hwC hgC bC b6 b6C hb6 hL1 bD hml c11 c5
          go_wp2_with fail
          go_loopw [55] (fun v wr => ∃ i : Nat, v = .int .i64 i ∧ i ≤ 2 ∧ Below wC.heap.size wC wr) (fun v _ => 2 - (intOf v).toNat)
          case atStart => exact ⟨0, rfl, by omega, Below.refl _ _⟩
          case round =>
            obtain ⟨i, rfl, hi, hb⟩ := hrel
            have HBi := Lib.hid hb
            clear hb
            by_cases hi2 : i = 2
            · subst hi2
              go_wp2_with fail
              exact ⟨⟨j + 1, by go_num, by omega, HBC.out.trans (HBi.out.mono HBC.out.size)⟩, by simp only [intOf]; omega⟩
            · have hilt : (i : Int) < 2 := by omega
              have i0 : (0 : Int) ≤ (i : Int) := by omega
              obtain ⟨la, lc, L, hL, hcell⟩ : ∃ (la : Option Addr) (lc : Nat) (L : List Int), Ints wC (.slice la L.length lc) L ∧ wC.cell? ⟨gC, i, none⟩ = some (.slice la L.length lc) := by
                rcases Nat.lt_or_ge i 1 with h | h
                · obtain rfl : i = 0 := by omega
                  exact ⟨l1, lc1, L1, HL1.out, CC.out.1⟩
                · obtain rfl : i = 1 := by omega
                  exact ⟨ca, cc, cs.take mk, by rw [HML.out]; exact HL2.out, by rw [HML.out]; exact CC.out.2⟩
              have c6 : wr.cell? ⟨gC, i, none⟩ = some (.slice la L.length lc) := keeps_of_below HBi.out _ _ hcell
              have HBCi : Hid (Below wB.heap.size wB wr) := HBC.out.trans (HBi.out.mono HBC.out.size)
              have d13 : wr.cell? ⟨b13, 0, none⟩ = some (.slice qa P.length qc) := keeps_of_below HBCi.out _ _ E13.out
              have HLr := Lib.hid (hL.below HBi.out)
              have HPr := Lib.hid ((HPA.out.below HBB.out).below HBCi.out)
              obtain ⟨al, ae, hma⟩ : ∃ al ae, matchF P o L = (al, ae) := ⟨_, _, rfl⟩
              have HMA := Lib.hid hma
              obtain ⟨ab, hab⟩ : ∃ ab, accB P o L = ab := ⟨_, rfl⟩
              have H18 := Lib.hid (fun W h1 h2 => f18_any (.slice qa P.length qc) (.slice la L.length lc) P o L W h1 h2)
              have H19 := Lib.hid (fun W h1 h2 => f19_any (.slice qa P.length qc) (.slice la L.length lc) P o L W h1 h2)
              rw [hab] at H18 H19
              clear hL hcell hma hab
              go_wp2_with fail
              refine (mcall HMA.out (.slice qa P.length qc) (.slice la L.length lc) wr HPr.out HLr.out).mono ?_
              rintro e w7 ⟨av, rfl, hav, hb7⟩
              obtain ⟨aa, ac, rfl⟩ := ints_slice hav
              have HAV := Lib.hid hav
              have HP7 := Lib.hid (HPr.out.below hb7)
              have HL7 := Lib.hid (HLr.out.below hb7)
              have d7 := keeps_of_below hb7 _ _ d13
              have HB7 : Hid (Below wC.heap.size wC w7) := HBi.out.trans (hb7.mono HBi.out.size)
              clear hav hb7
              go_wp2_with fail
              refine (rcall HMA.out (.slice qa P.length qc) (.slice la L.length lc) w7 HP7.out HL7.out).mono ?_
              rintro e w8 ⟨bv, rfl, hbv, hb8⟩
              obtain ⟨ba, bc, rfl⟩ := ints_slice hbv
              have HBV := Lib.hid hbv
              have HAV8 := Lib.hid (HAV.out.below hb8)
              have HP8 := Lib.hid (HP7.out.below hb8)
              have HL8 := Lib.hid (HL7.out.below hb8)
              have d8 := keeps_of_below hb8 _ _ d7
              have HB8 : Hid (Below wC.heap.size wC w8) := HB7.out.trans (hb8.mono HB7.out.size)
              clear hbv hb8 d7 d13 c6
              go_wp2_with fail
              refine wp_region_ord [(0, true), (1, true), (2, true), (3, true), (4, true), (5, true), (6, false), (7, true), (8, true), (9, true), (10, true), (11, true), (12, true), (14, true), (15, true), (16, true), (13, false), (17, false), (18, true), (19, true)] (fun w' => w'.cell? ⟨b13, 0, none⟩ = some (.slice qa P.length qc))
                (by kernel_rfl) (by kernel_rfl) rfl (by kernel_rfl) (fun _ _ d _ _ h => by cases d <;> exact h) d8 ?_
              refine wpO_light _ rfl rfl _ (fun w' hS => by go_simp; rfl) ?_
              refine wpO_light _ rfl rfl _ (fun w' hS => by go_simp; rfl) ?_
              refine wpO_light _ rfl rfl _ (fun w' hS => by go_simp; rfl) ?_
              go_simp
              refine wpO_light _ rfl rfl _ (fun w' hS => by go_simp; rfl) ?_
              go_simp
              refine wpO_light _ rfl rfl _ (fun w' hS => by go_simp; rfl) ?_
              refine wpO_light _ rfl rfl _ (fun w' hS => by go_simp; rfl) ?_
              go_simp
              have bD : Below w8.heap.size w8 w8.drew := (Below.refl _ _).drew
              have h17 := f17_any (.slice aa al.length ac) (.slice ba al.length bc) al al w8.drew (HAV8.out.below bD) (HBV.out.below bD)
              rw [decide_eq_true rfl] at h17
              refine wpO_heavy _ rfl rfl fun K' hK => ?_
              go_simp
              refine h17.mono ?_
              rintro e w9 ⟨rfl, hb9⟩
              have b9 : Below w8.heap.size w8 w9 := bD.trans (hb9.mono bD.size)
              refine hK _ _ ⟨keeps_of_below b9 _ _ d8, ?_⟩
              clear hK K' h17
              go_simp
              refine wpO_light _ rfl rfl _ (fun w' hS => by go_simp; rfl) ?_
              go_simp
              refine wpO_light _ rfl rfl _ (fun w' hS => by go_simp; rfl) ?_
              go_simp
              refine wpO_light _ rfl rfl _ (fun w' hS => by go_simp; rfl) ?_
              go_simp
              refine wpO_light _ rfl rfl _ (fun w' hS => by go_simp; rfl) ?_
              refine wpO_light _ rfl rfl _ (fun w' hS => by go_simp; rfl) ?_
              refine wpO_light _ rfl rfl _ (fun w' hS => by go_simp; rfl) ?_
              go_simp
              refine wpO_light _ rfl rfl _ (fun w' hS => by go_simp; rfl) ?_
              refine wpO_light _ rfl rfl _ (fun w' hS => by go_simp; rfl) ?_
              refine wpO_light _ rfl rfl _ (fun w' hS => by go_simp; rfl) ?_
              go_simp
              refine wpO_heavy _ rfl rfl fun K' hK => ?_
              go_simp
              refine (H18.out w9 (HP8.out.below b9) (HL8.out.below b9)).mono ?_
              rintro e w10 ⟨rfl, hb10⟩
              have b10 : Below w8.heap.size w8 w10 := b9.trans (hb10.mono b9.size)
              refine hK _ _ ⟨keeps_of_below b10 _ _ d8, ?_⟩
              clear hK K'
              go_simp
              refine wpO_heavy _ rfl rfl fun K' hK => ?_
              go_simp
              refine (H19.out w10 (HP8.out.below b10) (HL8.out.below b10)).mono ?_
              rintro e w11 ⟨rfl, hb11⟩
              have b11 : Below w8.heap.size w8 w11 := b10.trans (hb11.mono b10.size)
              refine hK _ _ ⟨keeps_of_below b11 _ _ d8, ?_⟩
              clear hK K'
              go_simp
              refine wpO_light _ rfl rfl _ (fun w' hS => by go_simp; rfl) ?_
              go_simp
              refine wpO_light _ rfl rfl _ (fun w' hS => by go_simp; rfl) ?_
              go_simp
              refine wpO_nil ?_
              have HB11 : Hid (Below wC.heap.size wC w11) := HB8.out.trans (b11.mono HB8.out.size)
              clear b9 b10 b11 hb9 hb10 hb11 bD
              go_wp2_with fail
              exact ⟨⟨i + 1, by go_num, by omega, HB11.out⟩, by simp only [intOf]; omega⟩
end Go.Proofs.YteilaajjpjhijaaDoor
