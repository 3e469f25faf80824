/- Walk of the law TextMatchesReference, with the walks of the reference's Print and Parse. -/
import Derived.Test.YteilaajjpjhijaaDoorW1
import Derived.Test.YteilaajjpjhijaaDoorL7
namespace Go.Proofs.YteilaajjpjhijaaDoor
open Go.RowKit PSpec

theorem rule_f (o : Int) (its : List It) (h : its.any (fun x => !itB x) = true) : ruleB (o, its) = false := by
  rw [any_not_all] at h
  simp only [Bool.not_eq_true'] at h
  simp [ruleB, h]

set_option maxHeartbeats 1000000 in
theorem f44_any (r : Rl) (iv : Value) (w : World) (hi : Items w iv r.2) :
    Calls Tryd.prog 44 #[.agg #[.int .i64 r.1, iv]] w fun e w' => e = .returned (.bool (ruleB r)) ∧ Below w.heap.size w w' := by
  obtain ⟨ro, its⟩ := r
  obtain ⟨a, cap, rfl, h1, h2, h3⟩ := hi
  unfold maxLen at h2
  simp only at h1 h3 ⊢
  by_cases hop : opB ro = true
  · by_cases hlen : (its.length : Int) ≤ 6
    · go_enter Tryd.func44, Tryd.ntmps44
      go_wp2_with (go_at_call 37; refine (f37_any _ _).mono ?_; rintro e w' ⟨rfl, rfl⟩)
      go_loopw [3] (fun i wr => ∃ k : Nat, k ≤ its.length ∧ i = .int .i64 k ∧ (its.take k).any (fun x => !itB x) = false ∧ Below (w.heap.size + 1) (w.alloc (.cells #[.int .i64 ro, .slice a its.length cap] 55)) wr) (fun i _ => its.length - (intOf i).toNat)
      case atStart => exact ⟨0, Nat.zero_le _, rfl, by simp, Below.refl _ _⟩
      case round =>
        obtain ⟨k, hk, rfl, ht, hb⟩ := hrel
        have HT := Lib.hid ht
        have hc1 := (hb.cell (p := ⟨w.heap.size, 1, none⟩) (by simp))
        have hc1 : wr.cell? ⟨w.heap.size, 1, none⟩ = some (.slice a its.length cap) := by rw [hc1]; go_simp
        have hbw : Below w.heap.size w wr := ((Below.refl _ _).alloc (Nat.le_refl _) _).trans (hb.mono (by simp))
        clear ht
        by_cases hlt : k < its.length
        · obtain ⟨x, hx⟩ := get_some its k hlt
          obtain ⟨b, o, rfl, hc⟩ := h3 (by rintro rfl; simp at hlt)
          obtain ⟨c0, c1, c2⟩ := (hc k x hx).keep (keeps_of_below hbw)
          have HX := Lib.hid hx
          clear hx hc h3
          go_wp2_with (go_at_call 37; refine (f37_any _ _).mono ?_; rintro e w' ⟨rfl, rfl⟩)
          all_goals first
            | (go_ret; exact ⟨ret_bool (rule_f _ _ (any_found _ _ k x HX.out (by rw [Bool.not_eq_true', Bool.eq_false_iff]; simp [itB, *] <;> omega))).symm, hbw.alloc hbw.size _⟩)
            | skip
          go_roundw
          case rel => exact ⟨k + 1, by omega, by go_num, any_snoc _ _ _ _ HX.out HT.out (by simp [itB, *] <;> omega), hb.alloc (by have := hb.size; simpa using this) _⟩
          case measure => simp [intOf]; omega
        · go_wp2
          go_ret
          exact ⟨ret_bool (by rw [← rule_t _ _ hop hlen, ← any_not_all, any_all _ _ k (by omega) HT.out]; rfl), hbw⟩
    · go_enter Tryd.func44, Tryd.ntmps44
      go_wp2_with (go_at_call 37; refine (f37_any _ _).mono ?_; rintro e w' ⟨rfl, rfl⟩)
      go_ret
      exact ⟨ret_bool (by rw [Bool.eq_iff_iff]; simp [ruleB, *]; omega), (Below.refl _ _).alloc (Nat.le_refl _) _⟩
  · go_enter Tryd.func44, Tryd.ntmps44
    go_wp2_with (go_at_call 37; refine (f37_any _ _).mono ?_; rintro e w' ⟨rfl, rfl⟩)
    go_ret
    exact ⟨ret_bool (by simp [ruleB, *]), (Below.refl _ _).alloc (Nat.le_refl _) _⟩

theorem valid_f (p : Pr) (h : p.any (fun x => !ruleB x) = true) : validB p = false := by
  rw [any_not_all] at h
  simp only [Bool.not_eq_true'] at h
  simp [validB, h]
theorem valid_t (p : Pr) (h2 : (p.length : Int) ≤ 24) (h : p.any (fun x => !ruleB x) = false) : validB p = true := by
  rw [any_not_all] at h
  have hl : p.length ≤ 24 := by omega
  simp only [Bool.not_eq_false'] at h
  simp [validB, h, hl]

set_option maxHeartbeats 1000000 in
theorem f21_any (v : Value) (p : Pr) (w : World) (hi : Rules w v p) :
    Calls Tryd.prog 21 #[.agg #[v]] w fun e w' => e = .returned (.bool (validB p)) ∧ Below w.heap.size w w' := by
  obtain ⟨a, cap, rfl, h1, h2, h3⟩ := hi
  unfold maxLen at h2
  by_cases hlen : (p.length : Int) ≤ 24
  · go_enter Tryd.func21, Tryd.ntmps21
    go_wp2
    go_loopw [3] (fun i wr => ∃ k : Nat, k ≤ p.length ∧ i = .int .i64 k ∧ (p.take k).any (fun x => !ruleB x) = false ∧ Below (w.heap.size + 1) (w.alloc (.cells #[.slice a p.length cap] 24)) wr) (fun i _ => p.length - (intOf i).toNat)
    case atStart => exact ⟨0, Nat.zero_le _, rfl, by simp, Below.refl _ _⟩
    case round =>
      obtain ⟨k, hk, rfl, ht, hb⟩ := hrel
      have HT := Lib.hid ht
      have hc1 := (hb.cell (p := ⟨w.heap.size, 0, none⟩) (by simp))
      have hc1 : wr.cell? ⟨w.heap.size, 0, none⟩ = some (.slice a p.length cap) := by rw [hc1]; go_simp
      have hbw : Below w.heap.size w wr := ((Below.refl _ _).alloc (Nat.le_refl _) _).trans (hb.mono (by simp))
      clear ht
      by_cases hlt : k < p.length
      · obtain ⟨x, hx⟩ := get_some p k hlt
        obtain ⟨b, o, rfl, hc⟩ := h3 (by rintro rfl; simp at hlt)
        obtain ⟨c0, iv, c1, ci⟩ := (hc k x hx).keep (keeps_of_below hbw)
        have HX := Lib.hid hx
        have HI := Lib.hid ci
        clear hx hc h3 ci
        cases hB : ruleB x
        · have HB := Lib.hid hB
          go_wp2_with (go_at_call 44; refine (f44_any x _ _ HI.out).mono ?_; rintro e w' ⟨rfl, hb'⟩)
          go_ret
          exact ⟨ret_bool (valid_f _ (any_found _ _ k x HX.out (by simp [HB.out]))).symm, hbw.trans (hb'.mono hbw.size)⟩
        · have HB := Lib.hid hB
          go_wp2_with (go_at_call 44; refine (f44_any x _ _ HI.out).mono ?_; rintro e w' ⟨rfl, hb'⟩)
          go_roundw
          case rel => exact ⟨k + 1, by omega, by go_num, any_snoc _ _ _ _ HX.out HT.out (by simp [HB.out]), hb.trans (hb'.mono (by have := hb.size; simpa using this))⟩
          case measure => simp [intOf]; omega
      · go_wp2
        go_ret
        exact ⟨ret_bool (valid_t _ hlen (any_all _ _ k (by omega) HT.out)).symm, hbw⟩
  · go_enter Tryd.func21, Tryd.ntmps21
    go_wp2
    go_ret
    exact ⟨ret_bool (by rw [Bool.eq_iff_iff]; simp [validB]; omega), (Below.refl _ _).alloc (Nat.le_refl _) _⟩

end Go.Proofs.YteilaajjpjhijaaDoor
namespace Go.Proofs.YteilaajjpjhijaaDoor
open Go.RowKit PSpec
set_option maxRecDepth 100000 in
set_option maxHeartbeats 1000000 in
theorem f63_any (n : Int) (h0 : 0 ≤ n) (h1 : n < 100) (w : World) : Calls Tryd.prog 63 #[.int .i64 n] w fun e w' => e = .returned (.string (bsA (dgs n))) ∧ Below w.heap.size w w' := by
  rcases dgs_small n h0 h1 with ⟨h, e⟩ | ⟨h, e⟩
  · have hd : decide ((10 : Int) ≤ n) = false := by simp; omega
    have hcv : (convert 44 9 (.slice (some ⟨w.heap.size, 0, none⟩) 1 1)).run Tryd.prog (w.alloc (.cells #[.int .u8 (48 + n)] 5)) = .ok (.string (bsA (dgs n))) (w.alloc (.cells #[.int .u8 (48 + n)] 5)) := by
      have := run_convert_bytes_back (P := Tryd.prog) (w.alloc (.cells #[.int .u8 (48 + n)] 5)) 44 9 5 ⟨w.heap.size, 0, none⟩ 1 (dgs n) Tryd.underlying44 Tryd.underlying5 Tryd.underlying9 (fun j hj => by
        rw [e] at hj
        obtain rfl : j = 0 := by simpa using hj
        rw [Addr.add_mid, cell_of_row _ _ _ _ _ _ (World.alloc_heap_new w _)]
        simp only [e, List.getElem_cons_zero]
        rw [dig_of n.toNat (by omega), show ((48 + n.toNat : Nat) : Int) = 48 + n by omega]
        rfl)
      rw [e] at this ⊢
      exact this
    clear e
    go_enter Tryd.func63, Tryd.ntmps63
    go_wp2_with fail
    go_ret
    exact ⟨rfl, (Below.refl _ _).alloc (Nat.le_refl _) _⟩
  · have hd : decide ((10 : Int) ≤ n) = true := by simp; omega
    have hcv : (convert 44 9 (.slice (some ⟨w.heap.size, 0, none⟩) 2 2)).run Tryd.prog (w.alloc (.cells #[.int .u8 (48 + n / 10), .int .u8 (48 + n % 10)] 5)) = .ok (.string (bsA (dgs n))) (w.alloc (.cells #[.int .u8 (48 + n / 10), .int .u8 (48 + n % 10)] 5)) := by
      have := run_convert_bytes_back (P := Tryd.prog) (w.alloc (.cells #[.int .u8 (48 + n / 10), .int .u8 (48 + n % 10)] 5)) 44 9 5 ⟨w.heap.size, 0, none⟩ 2 (dgs n) Tryd.underlying44 Tryd.underlying5 Tryd.underlying9 (fun j hj => by
        rw [e] at hj
        rw [Addr.add_mid, cell_of_row _ _ _ _ _ _ (World.alloc_heap_new w _)]
        obtain rfl | rfl : j = 0 ∨ j = 1 := by simp at hj; omega
        · simp only [e, List.getElem_cons_zero]
          rw [dig_of (n.toNat / 10) (by omega), show ((48 + n.toNat / 10 : Nat) : Int) = 48 + n / 10 by omega]
          rfl
        · simp only [e, List.getElem_cons_succ, List.getElem_cons_zero]
          rw [dig_of (n.toNat % 10) (by omega), show ((48 + n.toNat % 10 : Nat) : Int) = 48 + n % 10 by omega]
          rfl)
      rw [e] at this ⊢
      exact this
    clear e
    go_enter Tryd.func63, Tryd.ntmps63
    go_wp2_with fail
    go_ret
    exact ⟨rfl, (Below.refl _ _).alloc (Nat.le_refl _) _⟩
theorem cat_c {α : Type} {A C : Bs} {c : UInt8} (hC : A ++ [c] = C) (w : World) (h : Halt) (f : Value → α) (hl : A.length + 1 ≤ 9223372036854775807) :
    (if 9223372036854775807 < (bsA A).size + 1 then Result.halt h w else Result.ok (f (.string (bsA A ++ { data := #[c] }))) w) = Result.ok (f (.string (bsA C))) w := by
  rw [if_neg (by rw [bsA_size]; omega), app_bsA, ← hC]
theorem cat_d {α : Type} {A B C : Bs} (hC : A ++ B = C) (w : World) (h : Halt) (f : Value → α) (hl : A.length + B.length ≤ 9223372036854775807) :
    (if 9223372036854775807 < (bsA A).size + (bsA B).size then Result.halt h w else Result.ok (f (.string (bsA A ++ bsA B))) w) = Result.ok (f (.string (bsA C))) w := by
  rw [if_neg (by rw [bsA_size, bsA_size]; omega), app_bsA, bsA_data, hC]
set_option maxRecDepth 100000 in
set_option maxHeartbeats 8000000 in
theorem f48_any (ro : Int) (its : List It) (iv : Value) (w : World) (hi : Items w iv its) (hr : ruleB (ro, its) = true) :
    Calls Tryd.prog 48 #[.agg #[.int .i64 ro, iv]] w fun e w' => e = .returned (.string (bsA (lineS (ro, its)))) ∧ Below w.heap.size w w' := by
  obtain ⟨ia, ic, rfl, ib1, ib2, ib3⟩ := hi
  unfold maxLen at ib2
  have hr' := hr
  simp only [ruleB, Bool.and_eq_true, decide_eq_true_eq] at hr'
  obtain ⟨⟨hop, hl6⟩, hall⟩ := hr'
  obtain ⟨o0, o1⟩ := op_lt hop
  have b0 : Below w.heap.size w (w.alloc (.cells #[.int .i64 ro, .slice ia its.length ic] 55)) := (Below.refl _ _).alloc (Nat.le_refl _) _
  have hc0 : (w.alloc (.cells #[.int .i64 ro, .slice ia its.length ic] 55)).cell? ⟨w.heap.size, 1, none⟩ = some (.slice ia its.length ic) := by go_simp
  have hza : (w.alloc (.cells #[.int .i64 ro, .slice ia its.length ic] 55)).heap.size = w.heap.size + 1 := by simp
  have B0 := Lib.hid b0
  have C0 := Lib.hid hc0
  have HI3 := Lib.hid ib3
  have HALL := Lib.hid hall
  have HD := Lib.hid (fun W => f63_any ro o0 o1 W)
  have hdl := dgs_len ro o0 o1
  have HDL := Lib.hid hdl
  have hz1 : ¬ 9223372036854775807 < (bsA (dgs ro)).size + 1 := by rw [bsA_size]; omega
  have ha1 : bsA (dgs ro) ++ { data := #[58] } = bsA (dgs ro ++ [58]) := app_bsA _ _
  clear b0 hc0 ib3 hall hr hop hdl
  go_enter Tryd.func48, Tryd.ntmps48
  go_wp2_with (go_at_call 63; refine (HD.out _).mono ?_; rintro e w1 ⟨rfl, hb1⟩)
  obtain ⟨wa, hwa⟩ : ∃ W, W = w.alloc (.cells #[.int .i64 ro, .slice ia its.length ic] 55) := ⟨_, rfl⟩
  rw [← hwa] at B0 C0 hza hb1
  have HB1 := Lib.hid hb1
  clear hwa hb1 hz1 ha1
  go_loopw [3, 4] (fun v3 v4 wr => ∃ (k : Nat) (L : Bs), v4 = .int .i64 k ∧ k ≤ its.length ∧ v3 = .string (bsA L) ∧ L = dgs ro ++ 58 :: (its.take k).flatMap itemS ∧ Below wa.heap.size wa wr) (fun _ v4 _ => its.length - (intOf v4).toNat)
  case atStart => exact ⟨0, _, rfl, Nat.zero_le _, rfl, by simp, HB1.out⟩
  case round =>
    obtain ⟨k, L, rfl, hk, rfl, hL, hb⟩ := hrel
    have HBR := Lib.hid hb
    have c0 : wr.cell? ⟨w.heap.size, 1, none⟩ = some (.slice ia its.length ic) := keeps_of_below hb _ _ C0.out
    have HL := Lib.hid hL
    have hLl : L.length ≤ 1000 := by
      rw [hL]
      have h1 := items_len (its.take k) (List.all_eq_true.2 fun y hy => List.all_eq_true.1 HALL.out y (List.mem_of_mem_take hy))
      have h2 := HDL.out
      have h3 : (its.take k).length ≤ its.length := by rw [List.length_take]; omega
      simp only [List.length_append, List.length_cons]
      omega
    clear hb hL
    by_cases hkl : k < its.length
    · obtain ⟨x, hx⟩ := get_some its k hkl
      obtain ⟨b, o, rfl, hc⟩ := HI3.out (by rintro rfl; simp at hx)
      obtain ⟨z0, z1, z2⟩ := (hc k x hx).keep (keeps_of_below (B0.out.trans (HBR.out.mono B0.out.size)))
      have hxB : itB x = true := List.all_eq_true.1 HALL.out x (List.mem_of_getElem? hx)
      obtain ⟨⟨a0, a1⟩, ⟨e0, e1⟩, g0, g1⟩ := it_lt hxB
      have HX := Lib.hid hx
      obtain ⟨x0, x1, x2⟩ := x
      simp only at z0 z1 z2 a0 a1 e0 e1 g0 g1
      have D0 := Lib.hid (fun W => f63_any x0 a0 a1 W)
      have D1 := Lib.hid (fun W => f63_any x1 e0 e1 W)
      have D2 := Lib.hid (fun W => f63_any x2 g0 g1 W)
      have hd0 := (dgs_len x0 a0 a1).2
      have hd1 := (dgs_len x1 e0 e1).2
      have hd2 := (dgs_len x2 g0 g1).2
      have i0 : (0 : Int) ≤ (k : Int) := by omega
      have i1 : (k : Int) < (its.length : Int) := by omega
      clear hx hc hxB a0 a1 e0 e1 g0 g1
      go_wp2_with fail
      obtain ⟨bx, hbx⟩ : ∃ b, b = wr.heap.size := ⟨_, rfl⟩
      obtain ⟨wq, hwq⟩ : ∃ W, W = wr.alloc (.cells #[.int .i64 x0, .int .i64 x1, .int .i64 x2] 59) := ⟨_, rfl⟩
      have y0 : wq.cell? ⟨bx, 0, none⟩ = some (.int .i64 x0) := by rw [hwq, hbx]; go_simp
      have y1 : wq.cell? ⟨bx, 1, none⟩ = some (.int .i64 x1) := by rw [hwq, hbx]; go_simp
      have y2 : wq.cell? ⟨bx, 2, none⟩ = some (.int .i64 x2) := by rw [hwq, hbx]; go_simp
      have bq : Below wr.heap.size wr wq := by rw [hwq]; exact (Below.refl _ _).alloc (Nat.le_refl _) _
      have HBq : Hid (Below wa.heap.size wa wq) := HBR.out.trans (bq.mono HBR.out.size)
      rw [← hwq, ← hbx]
      clear hwq hbx bq z0 z1 z2 c0
      obtain ⟨L1, h1⟩ : ∃ X, L ++ [32] = X := ⟨_, rfl⟩
      obtain ⟨L2, h2⟩ : ∃ X, L1 ++ dgs x0 = X := ⟨_, rfl⟩
      obtain ⟨L3, h3⟩ : ∃ X, L2 ++ [42] = X := ⟨_, rfl⟩
      obtain ⟨L4, h4⟩ : ∃ X, L3 ++ dgs x1 = X := ⟨_, rfl⟩
      obtain ⟨L5, h5⟩ : ∃ X, L4 ++ [45] = X := ⟨_, rfl⟩
      obtain ⟨L6, h6⟩ : ∃ X, L5 ++ dgs x2 = X := ⟨_, rfl⟩
      have m1 : L1.length ≤ 1001 := by rw [← h1]; simp; omega
      have m2 : L2.length ≤ 1003 := by rw [← h2, List.length_append]; omega
      have m3 : L3.length ≤ 1004 := by rw [← h3]; simp; omega
      have m4 : L4.length ≤ 1006 := by rw [← h4, List.length_append]; omega
      have m5 : L5.length ≤ 1007 := by rw [← h5]; simp; omega
      have el : L6 = dgs ro ++ 58 :: (its.take (k + 1)).flatMap itemS := by
        rw [← h6, ← h5, ← h4, ← h3, ← h2, ← h1, flat_snoc itemS its k _ HX.out, HL.out]
        simp [itemS]
      have HEL := Lib.hid el
      have H1 := Lib.hid h1
      have H2 := Lib.hid h2
      have H3 := Lib.hid h3
      have H4 := Lib.hid h4
      have H5 := Lib.hid h5
      have H6 := Lib.hid h6
      clear h1 h2 h3 h4 h5 h6 el
      refine wp_region_ord [(0, true), (1, true), (2, true), (3, true), (7, true), (8, true), (12, true), (13, true), (4, false), (5, true), (6, true), (9, false), (10, true), (11, true), (14, false), (15, true), (16, true)] (fun w' => w'.cell? ⟨bx, 0, none⟩ = some (.int .i64 x0) ∧ w'.cell? ⟨bx, 1, none⟩ = some (.int .i64 x1) ∧ w'.cell? ⟨bx, 2, none⟩ = some (.int .i64 x2))
        (by kernel_rfl) (by kernel_rfl) rfl (by kernel_rfl) (fun _ _ d _ _ h => by cases d <;> exact h) ⟨y0, y1, y2⟩ ?_
      refine wpO_light _ rfl rfl _ (fun w' hS => by go_simp; rfl) ?_
      go_simp
      refine wpO_light _ rfl rfl (.string (bsA (L1))) (fun w' hS => by go_simp; exact cat_c H1.out _ _ _ (by omega)) ?_
      refine wpO_light _ rfl rfl _ (fun w' hS => by go_simp; rfl) ?_
      go_simp
      refine wpO_light _ rfl rfl _ (fun w' hS => by obtain ⟨s1, s2, s3⟩ := hS; go_simp; rfl) ?_
      refine wpO_light _ rfl rfl _ (fun w' hS => by go_simp; rfl) ?_
      go_simp
      refine wpO_light _ rfl rfl _ (fun w' hS => by obtain ⟨s1, s2, s3⟩ := hS; go_simp; rfl) ?_
      refine wpO_light _ rfl rfl _ (fun w' hS => by go_simp; rfl) ?_
      go_simp
      refine wpO_light _ rfl rfl _ (fun w' hS => by obtain ⟨s1, s2, s3⟩ := hS; go_simp; rfl) ?_
      go_simp
      have bD : Below wq.heap.size wq wq.drew := (Below.refl _ _).drew
      refine wpO_heavy _ rfl rfl fun K' hK => ?_
      go_simp
      refine (D0.out _).mono ?_
      rintro e w5 ⟨rfl, hb⟩
      have bw5 : Below wq.heap.size wq w5 := bD.trans (hb.mono bD.size)
      refine hK _ _ ⟨⟨keeps_of_below bw5 _ _ y0, keeps_of_below bw5 _ _ y1, keeps_of_below bw5 _ _ y2⟩, ?_⟩
      clear hK K' hb
      go_simp
      refine wpO_light _ rfl rfl (.string (bsA (L2))) (fun w' hS => by go_simp; exact cat_d H2.out _ _ _ (by omega)) ?_
      go_simp
      refine wpO_light _ rfl rfl (.string (bsA (L3))) (fun w' hS => by go_simp; exact cat_c H3.out _ _ _ (by omega)) ?_
      go_simp
      refine wpO_heavy _ rfl rfl fun K' hK => ?_
      go_simp
      refine (D1.out _).mono ?_
      rintro e w6 ⟨rfl, hb⟩
      have bw6 : Below wq.heap.size wq w6 := bw5.trans (hb.mono bw5.size)
      refine hK _ _ ⟨⟨keeps_of_below bw6 _ _ y0, keeps_of_below bw6 _ _ y1, keeps_of_below bw6 _ _ y2⟩, ?_⟩
      clear hK K' hb
      go_simp
      refine wpO_light _ rfl rfl (.string (bsA (L4))) (fun w' hS => by go_simp; exact cat_d H4.out _ _ _ (by omega)) ?_
      go_simp
      refine wpO_light _ rfl rfl (.string (bsA (L5))) (fun w' hS => by go_simp; exact cat_c H5.out _ _ _ (by omega)) ?_
      go_simp
      refine wpO_heavy _ rfl rfl fun K' hK => ?_
      go_simp
      refine (D2.out _).mono ?_
      rintro e w7 ⟨rfl, hb⟩
      have bw7 : Below wq.heap.size wq w7 := bw6.trans (hb.mono bw6.size)
      refine hK _ _ ⟨⟨keeps_of_below bw7 _ _ y0, keeps_of_below bw7 _ _ y1, keeps_of_below bw7 _ _ y2⟩, ?_⟩
      clear hK K' hb
      go_simp
      refine wpO_light _ rfl rfl (.string (bsA (L6))) (fun w' hS => by go_simp; exact cat_d H6.out _ _ _ (by omega)) ?_
      go_simp
      refine wpO_light _ rfl rfl _ (fun w' hS => by go_simp; rfl) ?_
      go_simp
      refine wpO_nil ?_
      have HB7 : Hid (Below wa.heap.size wa w7) := HBq.out.trans (bw7.mono HBq.out.size)
      clear bw5 bw6 bw7 bD y0 y1 y2
      go_wp2_with fail
      exact ⟨⟨k + 1, L6, by go_num, by omega, rfl, HEL.out, HB7.out⟩, by simp only [intOf]; omega⟩
    · obtain rfl : k = its.length := by omega
      have HBf : Hid (Below w.heap.size w wr) := B0.out.trans (HBR.out.mono B0.out.size)
      have hz2 : ¬ 9223372036854775807 < (bsA L).size + 1 := by rw [bsA_size]; omega
      have ha2 : bsA L ++ { data := #[10] } = bsA (lineS (ro, its)) := by
        rw [app_bsA, HL.out, List.take_length]
        simp [lineS]
      go_wp2_with fail
      go_ret
      exact ⟨rfl, HBf.out⟩
theorem printF_t4 {p : Pr} (h : validB p = true) : printF p = (printS p, 0) := by unfold printF; rw [if_pos h]
theorem printF_f4 {p : Pr} (h : validB p = false) : printF p = ([], 130) := by unfold printF; rw [if_neg (by simp [h])]
theorem mkPrint {p : Pr} {s : Bs} {er : Int} {w w' : World} {e : Ending} (h : printF p = (s, er)) (he : e = .returned (.tuple #[.string (bsA s), .int .i64 er])) (hb : Below w.heap.size w w') : PrintPost p w e w' := by
  unfold PrintPost
  rw [h]
  exact ⟨he, hb⟩
set_option maxRecDepth 100000 in
set_option maxHeartbeats 8000000 in
theorem f23_any (pv : Value) (p : Pr) (w : World) (hp : Rules w pv p) : Calls Tryd.prog 23 #[.agg #[pv]] w (PrintPost p w) := by
  obtain ⟨pa, pc, hpe⟩ : ∃ a c, pv = .slice a p.length c := by obtain ⟨a, c, e, _⟩ := hp; exact ⟨a, c, e⟩
  subst hpe
  have b0 : Below w.heap.size w (w.alloc (.cells #[.slice pa p.length pc] 24)) := (Below.refl _ _).alloc (Nat.le_refl _) _
  have c0 : (w.alloc (.cells #[.slice pa p.length pc] 24)).cell? ⟨w.heap.size, 0, none⟩ = some (.slice pa p.length pc) := by go_simp
  have HP := Lib.hid (hp.below b0)
  have B0 := Lib.hid b0
  have C0 := Lib.hid c0
  have HV := Lib.hid (fun W h => f21_any (.slice pa p.length pc) p W h)
  clear hp b0 c0
  cases hv : validB p with
  | false =>
    have HE := Lib.hid (printF_f4 hv)
    rw [hv] at HV
    clear hv
    go_enter Tryd.func23, Tryd.ntmps23
    go_wp2_with (go_at_call 21; refine (HV.out _ HP.out).mono ?_; rintro e w1 ⟨rfl, hb1⟩)
    go_ret2
    exact mkPrint HE.out rfl (B0.out.trans (hb1.mono B0.out.size))
  | true =>
    have HE := Lib.hid (printF_t4 hv)
    rw [hv] at HV
    have hv' := hv
    unfold validB at hv'
    simp only [Bool.and_eq_true, decide_eq_true_eq] at hv'
    obtain ⟨hpl, hpa⟩ := hv'
    have HPA := Lib.hid hpa
    clear hv hpa
    go_enter Tryd.func23, Tryd.ntmps23
    go_wp2_with (go_at_call 21; refine (HV.out _ HP.out).mono ?_; rintro e w1 ⟨rfl, hb1⟩; have HB1 := Lib.hid (B0.out.trans (hb1.mono B0.out.size)); have HP1 := Lib.hid (HP.out.below hb1); have C1 := Lib.hid (keeps_of_below hb1 _ _ C0.out); clear hb1)
    obtain ⟨pa', pc', e, pz1, pz2, pz3⟩ := HP1.out
    obtain ⟨rfl, rfl⟩ : pa = pa' ∧ pc = pc' := by simpa using e
    unfold maxLen at pz2
    have HZ3 := Lib.hid pz3
    clear e pz3
    go_loopw [4, 5] (fun v4 v5 wr => ∃ (k : Nat) (L : Bs), v5 = .int .i64 k ∧ k ≤ p.length ∧ v4 = .string (bsA L) ∧ L = printS (p.take k) ∧ Below w1.heap.size w1 wr) (fun _ v5 _ => p.length - (intOf v5).toNat)
    case atStart => exact ⟨0, [], rfl, Nat.zero_le _, rfl, rfl, Below.refl _ _⟩
    case round =>
      obtain ⟨k, L, rfl, hk, rfl, hL, hb⟩ := hrel
      have HBR := Lib.hid hb
      have d0 : wr.cell? ⟨w.heap.size, 0, none⟩ = some (.slice pa p.length pc) := keeps_of_below hb _ _ C1.out
      have HL := Lib.hid hL
      have hLl : L.length ≤ 2000 := by
        rw [hL]
        have h1 := print_len (p.take k) (List.all_eq_true.2 fun y hy => List.all_eq_true.1 HPA.out y (List.mem_of_mem_take hy))
        have h3 : (p.take k).length ≤ p.length := by rw [List.length_take]; omega
        omega
      clear hb hL
      by_cases hkl : k < p.length
      · obtain ⟨q, hq⟩ := get_some p k hkl
        obtain ⟨pb, po, rfl, hcells⟩ := HZ3.out (by rintro rfl; simp at hq)
        obtain ⟨e0, iv, e1, hits⟩ := (hcells k q hq).keep (keeps_of_below HBR.out)
        have hqB : ruleB q = true := List.all_eq_true.1 HPA.out q (List.mem_of_getElem? hq)
        have HQ := Lib.hid hq
        obtain ⟨ia, ic, hie⟩ : ∃ a c, iv = .slice a q.2.length c := by obtain ⟨a, c, e, _⟩ := hits; exact ⟨a, c, e⟩
        subst hie
        have hll := line_len q hqB
        obtain ⟨T, hT⟩ : ∃ T, lineS q = T := ⟨_, rfl⟩
        rw [hT] at hll
        have h48 := f48_any q.1 q.2 (.slice ia q.2.length ic) wr hits hqB
        rw [show ((q.1, q.2) : Rl) = q from rfl, hT] at h48
        have H48 := Lib.hid h48
        obtain ⟨L2, hL2⟩ : ∃ X, L ++ T = X := ⟨_, rfl⟩
        have hz : ¬ 9223372036854775807 < (bsA L).size + (bsA T).size := by rw [bsA_size, bsA_size]; omega
        have ha : bsA L ++ bsA T = bsA L2 := by rw [app_bsA, bsA_data, hL2]
        have hend : L2 = printS (p.take (k + 1)) := by
          unfold printS
          rw [flat_snoc lineS p k q hq, ← hL2, HL.out, hT]
          rfl
        have HEND := Lib.hid hend
        obtain ⟨qo, qi⟩ := q
        simp only at e0 e1 H48
        have i0 : (0 : Int) ≤ (k : Int) := by omega
        have i1 : (k : Int) < (p.length : Int) := by omega
        clear hq hcells hits hqB h48 hT hL2 hend
        go_wp2_with (go_at_call 48; refine H48.out.mono ?_; rintro e w2 ⟨rfl, hb2⟩; have HB2 := Lib.hid (HBR.out.trans (hb2.mono HBR.out.size)); clear hb2)
        exact ⟨⟨k + 1, L2, by go_num, by omega, rfl, HEND.out, HB2.out⟩, by simp only [intOf]; omega⟩
      · obtain rfl : k = p.length := by omega
        have hL2 : L = printS p := by rw [HL.out, List.take_length]
        have HL2 := Lib.hid hL2
        clear hL2
        go_wp2_with fail
        go_ret2
        exact mkPrint HE.out (by rw [HL2.out]; rfl) (HB1.out.trans (HBR.out.mono HB1.out.size))
end Go.Proofs.YteilaajjpjhijaaDoor
namespace Go.Proofs.YteilaajjpjhijaaDoor
open Go.RowKit PSpec
/-- at most two digits at an offset -/
def numR (s : Bs) (at_ : Nat) : Int × Nat :=
  match s[at_]? with
  | none => (-1, at_)
  | some b => if isDig b then
      match s[at_ + 1]? with
      | none => ((b.toNat : Int) - 48, at_ + 1)
      | some c => if isDig c then (((b.toNat : Int) - 48) * 10 + ((c.toNat : Int) - 48), at_ + 2) else ((b.toNat : Int) - 48, at_ + 1)
    else (-1, at_)
theorem numR_dgs {s : Bs} {at_ : Nat} {n : Int} {c : UInt8} {t : Bs} (h0 : 0 ≤ n) (h1 : n < 100) (hs : s.drop at_ = dgs n ++ c :: t) (hc : isDig c = false) : numR s at_ = (n, at_ + (dgs n).length) := by
  have e0 : s[at_]? = (dgs n ++ c :: t)[0]? := by rw [← hs, List.getElem?_drop]; rfl
  have e1 : s[at_ + 1]? = (dgs n ++ c :: t)[1]? := by rw [← hs, List.getElem?_drop]
  unfold numR
  rw [e0, e1]
  rcases dgs_small n h0 h1 with ⟨h, e⟩ | ⟨h, e⟩
  · rw [e]
    simp only [List.cons_append, List.nil_append, List.getElem?_cons_zero, List.getElem?_cons_succ]
    rw [if_pos (isDig_of n.toNat (by omega)), hc]
    simp only [Bool.false_eq_true, if_false, List.length_cons, List.length_nil]
    rw [dig_of n.toNat (by omega)]
    congr 1; omega
  · rw [e]
    simp only [List.cons_append, List.nil_append, List.getElem?_cons_zero, List.getElem?_cons_succ]
    rw [if_pos (isDig_of (n.toNat / 10) (by omega)), if_pos (isDig_of (n.toNat % 10) (by omega))]
    simp only [List.length_cons, List.length_nil]
    rw [dig_of (n.toNat / 10) (by omega), dig_of (n.toNat % 10) (by omega)]
    congr 1; omega
theorem numR_at (s : Bs) (a : Nat) : a ≤ (numR s a).2 ∧ (numR s a).2 ≤ a + 2 ∧ -1 ≤ (numR s a).1 ∧ (numR s a).1 ≤ 99 ∧ (a ≤ s.length → (numR s a).2 ≤ s.length) := by
  unfold numR
  cases h : s[a]? with
  | none => simp
  | some b =>
    have ha := (List.getElem?_eq_some_iff.1 h).1
    simp only
    by_cases hb : isDig b = true
    · rw [if_pos hb]
      unfold isDig at hb
      simp only [Bool.and_eq_true, decide_eq_true_eq] at hb
      cases h2 : s[a + 1]? with
      | none => simp only; omega
      | some c =>
        have ha2 := (List.getElem?_eq_some_iff.1 h2).1
        simp only
        by_cases hc : isDig c = true
        · rw [if_pos hc]
          unfold isDig at hc
          simp only [Bool.and_eq_true, decide_eq_true_eq] at hc
          simp only; omega
        · rw [if_neg hc]; simp only; omega
    · rw [if_neg hb]; simp
/-- the state of the loop: which digits have been read -/
def NS (s : Bs) (a : Nat) (k : Nat) (n : Int) (a' : Nat) : Prop :=
  (k = 0 ∧ n = -1 ∧ a' = a) ∨
  (k = 1 ∧ a' = a + 1 ∧ ∃ b, s[a]? = some b ∧ isDig b = true ∧ n = (b.toNat : Int) - 48) ∨
  (k = 2 ∧ a' = a + 2 ∧ ∃ b c, s[a]? = some b ∧ isDig b = true ∧ s[a + 1]? = some c ∧ isDig c = true ∧ n = ((b.toNat : Int) - 48) * 10 + ((c.toNat : Int) - 48))
theorem ns_end {s : Bs} {a k a' : Nat} {n : Int} (h : NS s a k n a') (hend : k = 2 ∨ ∀ b, s[a']? = some b → isDig b = false) : numR s a = (n, a') := by
  rcases h with ⟨rfl, rfl, rfl⟩ | ⟨rfl, rfl, b, hb, hd, rfl⟩ | ⟨rfl, rfl, b, c, hb, hd, hc, hdc, rfl⟩
  · have h := hend.resolve_left (by omega)
    unfold numR
    cases hs : s[a']? with
    | none => rfl
    | some b => simp [h b hs]
  · have h := hend.resolve_left (by omega)
    unfold numR
    rw [hb]
    simp only
    rw [if_pos hd]
    cases hs : s[a + 1]? with
    | none => rfl
    | some c => simp [h c hs]
  · unfold numR
    rw [hb]
    simp only
    rw [if_pos hd, hc]
    simp only
    rw [if_pos hdc]
theorem ns_step {s : Bs} {a k a' : Nat} {n : Int} (h : NS s a k n a') (hk : k < 2) {b : UInt8} (hb : s[a']? = some b) (hd : isDig b = true) : NS s a (k + 1) (max n 0 * 10 + ((b.toNat : Int) - 48)) (a' + 1) := by
  rcases h with ⟨rfl, rfl, rfl⟩ | ⟨rfl, rfl, b1, hb1, hd1, rfl⟩ | ⟨rfl, _⟩
  · right; left
    exact ⟨rfl, rfl, b, hb, hd, by omega⟩
  · right; right
    have hd1' := hd1
    unfold isDig at hd1'
    simp only [Bool.and_eq_true, decide_eq_true_eq] at hd1'
    exact ⟨rfl, rfl, b1, b, hb1, hd1, hb, hd, by rw [Int.max_eq_left (by omega)]⟩
  · omega
set_option maxRecDepth 100000 in
set_option maxHeartbeats 4000000 in
theorem f67_any (s : Bs) (a : Nat) (w : World) (hs : s.length ≤ 1000000) (ha : a ≤ s.length + 10) :
    Calls Tryd.prog 67 #[.string (bsA s), .int .i64 a] w fun e w' => e = .returned (.tuple #[.int .i64 (numR s a).1, .int .i64 (numR s a).2]) ∧ w = w' := by
  have hsz : (bsA s).size = s.length := bsA_size s
  go_enter Tryd.func67, Tryd.ntmps67
  go_wp2_with fail
  go_loopw [1, 6, 7] (fun v1 v6 v7 wr => ∃ (k a' : Nat) (n : Int), v1 = .int .i64 a' ∧ v6 = .int .i64 n ∧ v7 = .int .i64 k ∧ k ≤ 2 ∧ NS s a k n a' ∧ w = wr) (fun _ _ v7 _ => 2 - (intOf v7).toNat)
  case atStart => exact ⟨0, a, -1, rfl, rfl, rfl, by omega, .inl ⟨rfl, rfl, rfl⟩, rfl⟩
  case round =>
    obtain ⟨k, a', n, rfl, rfl, rfl, hk, hns, rfl⟩ := hrel
    have HNS := Lib.hid hns
    have ha' : a' ≤ a + 2 ∧ -1 ≤ n ∧ n ≤ 99 := by
      rcases hns with ⟨rfl, rfl, rfl⟩ | ⟨rfl, rfl, b, hb, hd, rfl⟩ | ⟨rfl, rfl, b, c, hb, hd, hc, hdc, rfl⟩
      · omega
      · unfold isDig at hd
        simp only [Bool.and_eq_true, decide_eq_true_eq] at hd
        omega
      · unfold isDig at hd hdc
        simp only [Bool.and_eq_true, decide_eq_true_eq] at hd hdc
        omega
    clear hns
    by_cases hk2 : k = 2
    · subst hk2
      go_wp2_with fail
      go_ret2
      rw [ns_end HNS.out (.inl rfl)]
      exact ⟨rfl, rfl⟩
    · have hkl : (k : Int) < 2 := by omega
      by_cases hal : a' < s.length
      · obtain ⟨b, hb⟩ := get_some s a' hal
        have i0 : (0 : Int) ≤ (a' : Int) := by omega
        have i1 : (a' : Int) < (s.length : Int) := by omega
        have hget : (bsA s)[a']'(by rw [bsA_size]; exact hal) = b := by
          have e : s[a']'hal = b := by simpa [List.getElem?_eq_getElem hal] using hb
          rw [← e]
          rfl
        have HB := Lib.hid hb
        have hb256 : b.toNat < 256 := b.toNat_lt
        clear hb
        have hnd : ¬ (48 ≤ b.toNat ∧ b.toNat ≤ 57) → ∀ c, s[a']? = some c → isDig c = false := fun h c hc => by
          rw [HB.out] at hc
          obtain rfl : b = c := by simpa using hc
          cases hd : isDig b with
          | false => rfl
          | true =>
            unfold isDig at hd
            simp only [Bool.and_eq_true, decide_eq_true_eq] at hd
            exact absurd hd h
        have HND := Lib.hid hnd
        clear hnd
        by_cases h48 : 48 ≤ b.toNat
        · by_cases h57 : b.toNat ≤ 57
          · have hd : isDig b = true := by
              unfold isDig
              simp only [Bool.and_eq_true, decide_eq_true_eq]
              exact ⟨h48, h57⟩
            have HST := Lib.hid (ns_step HNS.out (by omega) HB.out hd)
            clear hd
            go_wp2_with fail
            exact ⟨⟨k + 1, a' + 1, _, by go_num, rfl, by go_num, by omega, HST.out, trivial⟩, by simp only [intOf]; omega⟩
          · have HNE := Lib.hid (ns_end HNS.out (.inr (HND.out (fun h => h57 h.2))))
            go_wp2_with fail
            go_ret2
            rw [HNE.out]
            exact ⟨rfl, rfl⟩
        · have HNE := Lib.hid (ns_end HNS.out (.inr (HND.out (fun h => h48 h.1))))
          go_wp2_with fail
          go_ret2
          rw [HNE.out]
          exact ⟨rfl, rfl⟩
      · have hnb : ∀ b, s[a']? = some b → isDig b = false := fun b hb => by
          have := (List.getElem?_eq_some_iff.1 hb).1
          omega
        have HNB := Lib.hid hnb
        have i1 : ¬ (a' : Int) < (s.length : Int) := by omega
        clear hnb
        go_wp2_with fail
        go_ret2
        rw [ns_end HNS.out (.inr HNB.out)]
        exact ⟨rfl, rfl⟩
end Go.Proofs.YteilaajjpjhijaaDoor
namespace Go.Proofs.YteilaajjpjhijaaDoor
open Go.RowKit PSpec
theorem f67_next (s : Bs) (a : Nat) (n : Int) (b : Nat) (h : numR s (a + 1) = (n, b)) (hs : s.length ≤ 1000000) (ha : a + 1 ≤ s.length + 10) (w : World) :
    Calls Tryd.prog 67 #[.string (bsA s), .int .i64 ((a : Int) + 1)] w fun e w' => e = .returned (.tuple #[.int .i64 n, .int .i64 (b : Int)]) ∧ w = w' := by
  have := f67_any s (a + 1) w hs ha
  rw [h] at this
  exact this
theorem f67_zero (s : Bs) (n : Int) (b : Nat) (h : numR s 0 = (n, b)) (hs : s.length ≤ 1000000) (w : World) :
    Calls Tryd.prog 67 #[.string (bsA s), .int .i64 0] w fun e w' => e = .returned (.tuple #[.int .i64 n, .int .i64 (b : Int)]) ∧ w = w' := by
  have := f67_any s 0 w hs (by omega)
  rw [h] at this
  exact this
/-- what has been read of a line that is a rule's -/
def VI (s : Bs) (op : Int) (its : List It) (a : Nat) : Prop :=
  ∀ x : Rl, ruleB x = true → s = lineS x → op = x.1 ∧ its.length ≤ x.2.length ∧ its = x.2.take its.length ∧ s.drop a = (x.2.drop its.length).flatMap itemS ++ [10]
theorem vi_start {s : Bs} {n : Int} {b : Nat} (h : numR s 0 = (n, b)) : VI s n [] (b + 1) := by
  intro x hx hs
  have hop : opB x.1 = true := by
    simp only [ruleB, Bool.and_eq_true] at hx
    exact hx.1.1
  obtain ⟨o0, o1⟩ := op_lt hop
  have hd : s.drop 0 = dgs x.1 ++ 58 :: (x.2.flatMap itemS ++ [10]) := by rw [List.drop_zero, hs]; rfl
  have hn := numR_dgs o0 o1 hd (by decide)
  rw [h] at hn
  obtain ⟨rfl, rfl⟩ : n = x.1 ∧ b = 0 + (dgs x.1).length := by simpa using hn
  refine ⟨rfl, Nat.zero_le _, by simp, ?_⟩
  rw [List.drop_zero] at hd
  rw [hd, Nat.zero_add, ← List.drop_drop, List.drop_left]
  simp
theorem vi_step {s : Bs} {op : Int} {its : List It} {a a1 a2 a3 : Nat} {n1 n2 n3 : Int} (h : VI s op its a) (h32 : s[a]? = some 32)
    (e1 : numR s (a + 1) = (n1, a1)) (e2 : numR s (a1 + 1) = (n2, a2)) (e3 : numR s (a2 + 1) = (n3, a3)) : VI s op (its ++ [(n1, n2, n3)]) a3 := by
  intro x hx hs
  obtain ⟨h1, h2, h3, h4⟩ := h x hx hs
  have hall : x.2.all itB = true := by
    simp only [ruleB, Bool.and_eq_true] at hx
    exact hx.2
  have hne : its.length < x.2.length := by
    rcases Nat.lt_or_ge its.length x.2.length with h | h
    · exact h
    · exfalso
      rw [List.drop_of_length_le h] at h4
      have : s[a]? = some 10 := by rw [show a = a + 0 from rfl, ← List.getElem?_drop, h4]; rfl
      rw [h32] at this
      simp at this
  obtain ⟨y, hy⟩ := get_some x.2 its.length hne
  have hyB : itB y = true := List.all_eq_true.1 hall y (List.mem_of_getElem? hy)
  obtain ⟨⟨a0, a0'⟩, ⟨b0, b0'⟩, c0, c0'⟩ := it_lt hyB
  have hdr : x.2.drop its.length = y :: x.2.drop (its.length + 1) := by
    rw [List.drop_eq_getElem_cons hne]
    congr 1
    simpa [List.getElem?_eq_getElem hne] using hy
  rw [hdr] at h4
  obtain ⟨T, hT⟩ : ∃ T, T = (x.2.drop (its.length + 1)).flatMap itemS ++ [10] := ⟨_, rfl⟩
  have h5 : s.drop a = 32 :: (dgs y.1 ++ 42 :: (dgs y.2.1 ++ 45 :: (dgs y.2.2 ++ T))) := by
    rw [h4, hT]; simp [itemS]
  have hTc : ∃ c t, T = c :: t ∧ isDig c = false := by
    rw [hT]
    cases x.2.drop (its.length + 1) with
    | nil => exact ⟨10, [], rfl, by decide⟩
    | cons z zs => exact ⟨32, _, by simp only [List.flatMap_cons, itemS, List.cons_append]; rfl, by decide⟩
  obtain ⟨c, t, hc, hcd⟩ := hTc
  have d1 : s.drop (a + 1) = dgs y.1 ++ 42 :: (dgs y.2.1 ++ 45 :: (dgs y.2.2 ++ T)) := by
    rw [← List.drop_drop, h5]; rfl
  have r1 := numR_dgs a0 a0' d1 (by decide)
  rw [e1] at r1
  obtain ⟨rfl, rfl⟩ : n1 = y.1 ∧ a1 = a + 1 + (dgs y.1).length := by simpa using r1
  have d2 : s.drop (a + 1 + (dgs y.1).length + 1) = dgs y.2.1 ++ 45 :: (dgs y.2.2 ++ T) := by
    rw [← List.drop_drop, ← List.drop_drop, d1, List.drop_left]; rfl
  have r2 := numR_dgs b0 b0' d2 (by decide)
  rw [e2] at r2
  obtain ⟨rfl, rfl⟩ : n2 = y.2.1 ∧ a2 = a + 1 + (dgs y.1).length + 1 + (dgs y.2.1).length := by simpa using r2
  have d3 : s.drop (a + 1 + (dgs y.1).length + 1 + (dgs y.2.1).length + 1) = dgs y.2.2 ++ c :: t := by
    rw [← List.drop_drop, ← List.drop_drop, d2, List.drop_left, ← hc]; rfl
  have r3 := numR_dgs c0 c0' d3 hcd
  rw [e3] at r3
  obtain ⟨rfl, rfl⟩ : n3 = y.2.2 ∧ a3 = a + 1 + (dgs y.1).length + 1 + (dgs y.2.1).length + 1 + (dgs y.2.2).length := by simpa using r3
  refine ⟨h1, by simp; omega, ?_, ?_⟩
  · rw [List.length_append, List.length_singleton, List.take_add_one, hy, ← h3]
    rfl
  · rw [List.length_append, List.length_singleton, ← hT, ← List.drop_drop, d3, List.drop_left, hc]
theorem vi_end {s : Bs} {op : Int} {its : List It} {a : Nat} (h : VI s op its a) (hend : 7 ≤ its.length ∨ s[a]? ≠ some 32) : ∀ x : Rl, ruleB x = true → s = lineS x → (op, its) = x := by
  intro x hx hs
  obtain ⟨h1, h2, h3, h4⟩ := h x hx hs
  have hl : x.2.length ≤ 6 := by
    simp only [ruleB, Bool.and_eq_true, decide_eq_true_eq] at hx
    exact hx.1.2
  have h32 := hend.resolve_left (by omega)
  have hge : x.2.length ≤ its.length := by
    rcases Nat.lt_or_ge its.length x.2.length with h | h
    · exfalso
      rw [List.drop_eq_getElem_cons h] at h4
      refine h32 ?_
      rw [show a = a + 0 from rfl, ← List.getElem?_drop, h4, List.flatMap_cons]
      rfl
    · exact h
  obtain ⟨xo, xi⟩ := x
  simp only at h1 h2 h3 hge
  rw [show its.length = xi.length by omega, List.take_length] at h3
  rw [h1, h3]
/-- the memory of the loop: the result, the rule that is built, its items -/
structure PSt (w0 : World) (op : Int) (its : List It) (iv : Value) (W : World) : Prop where
  rblk : W.heap[w0.heap.size + 1]? = some (.cells #[.int .i64 op, iv] 55 (0, 0))
  res : W.heap[w0.heap.size]? = some (.cells #[.int .i64 0, .slice none 0 0] 55 (0, 0))
  own : W.ownsRow (w0.heap.size + 1 + 1) 59 3 iv its.length (itCells its)
  low : Below w0.heap.size w0 W
theorem set1 {W : World} {b : Nat} {x y y' : Value} {t : TypeId} (h : W.heap[b]? = some (.cells #[x, y] t (0, 0))) : (W.setCell ⟨b, 1, none⟩ y').heap[b]? = some (.cells #[x, y'] t (0, 0)) := by
  have hlt := heap_lt h
  have hg : W.heap[b] = .cells #[x, y] t (0, 0) := by simpa [Array.getElem?_eq_getElem hlt] using h
  show (W.heap.modify b _)[b]? = _
  rw [Array.getElem?_eq_getElem (by simpa using hlt), Array.getElem_modify_self, hg]
  rfl
theorem PSt.add {w0 W W1 W2 : World} {op : Int} {its : List It} {iv iv' : Value} {x : It} (h : PSt w0 op its iv W) (hb : Below W.heap.size W W1)
    (hown : W2.ownsRow (w0.heap.size + 1 + 1) 59 3 iv' (its.length + 1) (itCells its ++ [.int .i64 x.1, .int .i64 x.2.1, .int .i64 x.2.2])) (hg : W1.grownBy W2 iv.ownBlock) :
    PSt w0 op (its ++ [x]) iv' (W2.setCell ⟨w0.heap.size + 1, 1, none⟩ iv') := by
  have hg1 : W.grownBy W2 iv.ownBlock := grown_trans (grownBel hb _) hg
  have hlt := heap_lt h.rblk
  have hlt0 := heap_lt h.res
  have hvb : ∀ j, iv.ownBlock = some j → w0.heap.size + 1 + 1 ≤ j := fun j e => (h.own.lt j e).1
  have blk : ∀ j, j < w0.heap.size + 1 + 1 → W2.heap[j]? = W.heap[j]? := fun j hj => hg1.block j (by omega) fun e => by have := hvb j e.symm; omega
  have hset : W2.grownBy (W2.setCell ⟨w0.heap.size + 1, 1, none⟩ iv') (some (w0.heap.size + 1)) := grown_set (grownBel (Below.refl _ _) _) _ _
  refine ⟨set1 ((blk _ (by omega)).trans h.rblk), ?_, ?_, ?_⟩
  · exact (hset.block _ (by have := hg1.size; omega) (by simp)).trans ((blk _ (by omega)).trans h.res)
  · rw [List.length_append, List.length_singleton, itCells_snoc]
    exact grown_kept hown hset fun j hj => by have := (hown.lt j hj).1; simp; omega
  · refine (h.low.grown hg1 h.low.size fun k hk => by have := hvb k hk; omega).trans ?_
    exact (Below.refl _ _).setCell (p := ⟨w0.heap.size + 1, 1, none⟩) (by simp) _
def PPost (s : Bs) (w : World) (e : Ending) (w' : World) : Prop := ∃ (r : Rl) (iv : Value), e = .returned (.agg #[.int .i64 r.1, iv]) ∧ w'.ownsRow (w.heap.size + 1 + 1) 59 3 iv r.2.length (itCells r.2) ∧ Below w.heap.size w w' ∧ ∀ x : Rl, ruleB x = true → s = lineS x → r = x
set_option maxRecDepth 100000 in
set_option maxHeartbeats 8000000 in
theorem f50_any (s : Bs) (w : World) (hs : s.length ≤ 1000000) : Calls Tryd.prog 50 #[.string (bsA s)] w (PPost s w) := by
  have hsz : (bsA s).size = s.length := bsA_size s
  obtain ⟨n0, b0, h0⟩ : ∃ n b, numR s 0 = (n, b) := ⟨_, _, rfl⟩
  have hat := numR_at s 0
  rw [h0] at hat
  simp only at hat
  have hb0 : b0 ≤ s.length := hat.2.2.2.2 (Nat.zero_le _)
  have HC0 := Lib.hid (f67_zero s n0 b0 h0 hs)
  have HV0 := Lib.hid (vi_start h0)
  clear hat h0
  have hst : PSt w n0 [] (.slice none 0 0) ((w.alloc (.cells #[.int .i64 0, .slice none 0 0] 55)).alloc (.cells #[.int .i64 n0, .slice none 0 0] 55)) := by
    refine ⟨?_, ?_, World.ownsRow_nil _ _ _ _, ((Below.refl _ _).alloc (Nat.le_refl _) _).alloc (by simp) _⟩
    · rw [show w.heap.size + 1 = (w.alloc (.cells #[.int .i64 0, .slice none 0 0] 55)).heap.size by simp]; exact World.alloc_heap_new _ _
    · exact (((Below.refl _ (w.alloc (.cells #[.int .i64 0, .slice none 0 0] 55))).alloc (Nat.le_refl _) _).block _ (by simp)).trans (World.alloc_heap_new _ _)
  have HST := Lib.hid hst
  clear hst
  go_enter Tryd.func50, Tryd.ntmps50
  go_wp2_with (go_at_call 67; with_reducible refine (HC0.out _).mono ?_; rintro e w1 ⟨rfl, rfl⟩)
  go_loopw [5] (fun v5 wr => ∃ (its : List It) (iv : Value) (a : Nat), v5 = .int .i64 a ∧ its.length ≤ 7 ∧ a ≤ s.length + 6 ∧ VI s n0 its a ∧ PSt w n0 its iv wr) (fun v5 _ => s.length + 10 - (intOf v5).toNat)
  case atStart => exact ⟨[], _, b0 + 1, by go_num, by simp, by omega, HV0.out, HST.out⟩
  case round =>
    obtain ⟨its, iv, a, rfl, hil, hal, hvi, hps⟩ := hrel
    obtain ⟨va, vc, rfl⟩ := own_slice hps.own
    have HVI := Lib.hid hvi
    have HPS := Lib.hid hps
    have r0 : wr.cell? ⟨w.heap.size + 1, 0, none⟩ = some (.int .i64 n0) := (cell_of_row wr _ 0 _ _ _ hps.rblk).trans rfl
    have r1 : wr.cell? ⟨w.heap.size + 1, 1, none⟩ = some (.slice va its.length vc) := (cell_of_row wr _ 1 _ _ _ hps.rblk).trans rfl
    have rf0 : wr.frozen? ⟨w.heap.size + 1, 0, none⟩ = false := frozen_of_row wr _ 0 _ _ hps.rblk
    have rf1 : wr.frozen? ⟨w.heap.size + 1, 1, none⟩ = false := frozen_of_row wr _ 1 _ _ hps.rblk
    have q0 : wr.cell? ⟨w.heap.size, 0, none⟩ = some (.int .i64 0) := (cell_of_row wr _ 0 _ _ _ hps.res).trans rfl
    have q1 : wr.cell? ⟨w.heap.size, 1, none⟩ = some (.slice none 0 0) := (cell_of_row wr _ 1 _ _ _ hps.res).trans rfl
    have qf0 : wr.frozen? ⟨w.heap.size, 0, none⟩ = false := frozen_of_row wr _ 0 _ _ hps.res
    have qf1 : wr.frozen? ⟨w.heap.size, 1, none⟩ = false := frozen_of_row wr _ 1 _ _ hps.res
    have hwz : w.heap.size + 1 < wr.heap.size := heap_lt hps.rblk
    clear hvi hps
    have fin : (7 ≤ its.length ∨ s[a]? ≠ some 32) → ∀ W, W = (wr.setCell ⟨w.heap.size, 0, none⟩ (.int .i64 n0)).setCell ⟨w.heap.size, 1, none⟩ (.slice va its.length vc) → PPost s w (.returned (.agg #[.int .i64 n0, .slice va its.length vc])) W := fun h W hW => by
      have hg : wr.grownBy W (some w.heap.size) := by rw [hW]; exact grown_set (grown_set (grownBel (Below.refl _ _) _) _ _) _ _
      have ho := grown_kept HPS.out.own hg fun j hj => by have := (HPS.out.own.lt j hj).1; simp; omega
      refine ⟨(n0, its), _, rfl, ho, ?_, vi_end HVI.out h⟩
      rw [hW]
      exact (HPS.out.low.setCell (p := ⟨w.heap.size, 0, none⟩) (Nat.le_refl _) _).setCell (p := ⟨w.heap.size, 1, none⟩) (Nat.le_refl _) _
    have FIN := Lib.hid fin
    clear fin
    by_cases hal2 : a < s.length
    · obtain ⟨b, hb⟩ := get_some s a hal2
      have hget : (bsA s)[a]'(by rw [bsA_size]; exact hal2) = b := by
        have e : s[a]'hal2 = b := by simpa [List.getElem?_eq_getElem hal2] using hb
        rw [← e]
        rfl
      have i0 : (0 : Int) ≤ (a : Int) := by omega
      have i1 : (a : Int) < (s.length : Int) := by omega
      have HB := Lib.hid hb
      clear hb
      by_cases h32 : b = 32
      · subst h32
        by_cases h6 : its.length ≤ 6
        · obtain ⟨n1, a1, e1⟩ : ∃ n b, numR s (a + 1) = (n, b) := ⟨_, _, rfl⟩
          obtain ⟨n2, a2, e2⟩ : ∃ n b, numR s (a1 + 1) = (n, b) := ⟨_, _, rfl⟩
          obtain ⟨n3, a3, e3⟩ : ∃ n b, numR s (a2 + 1) = (n, b) := ⟨_, _, rfl⟩
          have t1 := numR_at s (a + 1)
          have t2 := numR_at s (a1 + 1)
          have t3 := numR_at s (a2 + 1)
          rw [e1] at t1
          rw [e2] at t2
          rw [e3] at t3
          simp only at t1 t2 t3
          have ht1 := t1.2.2.2.2 (by omega)
          have H1 := Lib.hid (f67_next s a n1 a1 e1 hs (by omega))
          have H2 := Lib.hid (f67_next s a1 n2 a2 e2 hs (by omega))
          have H3 := Lib.hid (f67_next s a2 n3 a3 e3 hs (by omega))
          have HVN := Lib.hid (vi_step HVI.out HB.out e1 e2 e3)
          have ha3 : a3 ≤ s.length + 6 ∧ a < a3 := by omega
          have hA1 : a1 ≤ 1000000 := by omega
          have hA2 : a2 ≤ 1000010 := by omega
          have hA3 : a3 ≤ 1000010 := by omega
          obtain ⟨i0', HI0⟩ := part59
          clear t1 t2 t3 e1 e2 e3 ht1
          go_wp2_with (first
            | (go_at_call 67; with_reducible refine (H1.out _).mono ?_; rintro e w2 ⟨rfl, rfl⟩)
            | (go_at_call 67; with_reducible refine (H2.out _).mono ?_; rintro e w2 ⟨rfl, rfl⟩)
            | (go_at_call 67; with_reducible refine (H3.out _).mono ?_; rintro e w2 ⟨rfl, rfl⟩)
            | (at_builtin; refine wpList_append_own_at _ rfl (.tmp 57) (.tmp 59) 53 rfl (w.heap.size + 1 + 1) 59 i0' (.agg #[.int .i64 0, .int .i64 0, .int .i64 0]) 3 24 Tryd.underlying53 HI0.out.1 HI0.out.2.1 HI0.out.2.2.1 HI0.out.2.2.2 rfl (by decide) (.slice va its.length vc) its.length _ rfl ((HPS.out.own.alloc _).alloc _) ⟨wr.heap.size + 1, 0, none⟩ 1 1 [.int .i64 n1, .int .i64 n2, .int .i64 n3] rfl rfl ?_ ?_ ?_ ?_ ?_ ?_))
          · intro j u hu
            have := new_cells (wr.alloc (.cells #[.int .i64 n1, .int .i64 n2, .int .i64 n3] 59)) [.int .i64 n1, .int .i64 n2, .int .i64 n3] 59 (wr.heap.size + 1) (by simp) j u hu
            exact this
          · intro u hu
            simp only [List.mem_cons, List.not_mem_nil, or_false] at hu
            rcases hu with rfl | rfl | rfl <;> rfl
          · unfold maxLen; omega
          · omega
          · simp only [World.size_alloc]; omega
          · intro v' w' ho' hg' _ _
            obtain ⟨a8, c8, rfl⟩ := own_slice ho'
            have bal : Below wr.heap.size wr ((wr.alloc (.cells #[.int .i64 n1, .int .i64 n2, .int .i64 n3] 59)).alloc (.cells #[.int .i64 n1, .int .i64 n2, .int .i64 n3] 59)) := ((Below.refl _ _).alloc (Nat.le_refl _) _).alloc (by simp) _
            have hadd := HPS.out.add (x := (n1, n2, n3)) bal ho' hg'
            have hg1 : wr.grownBy w' (Value.slice va its.length vc).ownBlock := grown_trans (grownBel bal _) hg'
            have hrb : w'.heap[w.heap.size + 1]? = some (.cells #[.int .i64 n0, .slice va its.length vc] 55 (0, 0)) := (hg1.block _ hwz (fun e => by have := (HPS.out.own.lt _ e.symm).1; omega)).trans HPS.out.rblk
            have g1 : w'.cell? ⟨w.heap.size + 1, 1, none⟩ = some (.slice va its.length vc) := (cell_of_row w' _ 1 _ _ _ hrb).trans rfl
            have gf1 : w'.frozen? ⟨w.heap.size + 1, 1, none⟩ = false := frozen_of_row w' _ 1 _ _ hrb
            have HADD := Lib.hid hadd
            clear ho' hg' bal hadd hg1 hrb
            go_wp2_with fail
            exact ⟨⟨its ++ [(n1, n2, n3)], _, a3, rfl, by rw [List.length_append, List.length_singleton]; omega, ha3.1, HVN.out, HADD.out⟩, by simp only [intOf]; omega⟩
        · have hd6 : ¬ (its.length : Int) ≤ 6 := by omega
          have HF := Lib.hid (FIN.out (.inl (by omega)))
          go_wp2_with fail
          refine bodyPost_ret (v := .agg #[.int .i64 n0, .slice va its.length vc]) ?_ rfl (HF.out _ rfl)
          simp [results, Tryd.results50, go_sem, *]
      · have hne : b.toNat ≠ 32 := fun e => h32 (UInt8.toNat_inj.1 e)
        have hd : ((b.toNat : Int) == 32) = false := by simp; omega
        have HF := Lib.hid (FIN.out (.inr (by rw [HB.out]; simpa using h32)))
        go_wp2_with fail
        refine bodyPost_ret (v := .agg #[.int .i64 n0, .slice va its.length vc]) ?_ rfl (HF.out _ rfl)
        simp [results, Tryd.results50, go_sem, *]
    · have HF := Lib.hid (FIN.out (.inr (by rw [List.getElem?_eq_none (by omega)]; simp)))
      have i1 : ¬ (a : Int) < (s.length : Int) := by omega
      go_wp2_with fail
      refine bodyPost_ret (v := .agg #[.int .i64 n0, .slice va its.length vc]) ?_ rfl (HF.out _ rfl)
      simp [results, Tryd.results50, go_sem, *]
end Go.Proofs.YteilaajjpjhijaaDoor
namespace Go.Proofs.YteilaajjpjhijaaDoor
open Go.RowKit PSpec
theorem bsA_extract (l : Bs) (i j : Nat) : (bsA l).extract i j = bsA ((l.take j).drop i) := by
  rw [← bsA_of ((bsA l).extract i j)]
  congr 1
  rw [ByteArray.data_extract, Array.toList_extract, bsA_data]
  simp [List.drop_take]
theorem line_no {x : Rl} (h : ruleB x = true) : ∃ m, lineS x = m ++ [10] ∧ (10 : UInt8) ∉ m := by
  refine ⟨dgs x.1 ++ 58 :: x.2.flatMap itemS, by simp [lineS], ?_⟩
  have hd : ∀ n, 0 ≤ n → n < 100 → (10 : UInt8) ∉ dgs n := fun n h0 h1 hm => by
    have := dgs_dig n h0 h1 10 hm
    exact absurd this (by decide)
  simp only [ruleB, Bool.and_eq_true] at h
  obtain ⟨o0, o1⟩ := op_lt h.1.1
  intro hm
  rcases List.mem_append.1 hm with hm | hm
  · exact hd _ o0 o1 hm
  · rcases List.mem_cons.1 hm with hm | hm
    · exact absurd hm (by decide)
    · obtain ⟨y, hy, hm⟩ := List.mem_flatMap.1 hm
      obtain ⟨⟨a0, a1⟩, ⟨b0, b1⟩, c0, c1⟩ := it_lt (List.all_eq_true.1 h.2 y hy)
      unfold itemS at hm
      rcases List.mem_cons.1 hm with hm | hm
      · exact absurd hm (by decide)
      · rcases List.mem_append.1 hm with hm | hm
        · exact hd _ a0 a1 hm
        · rcases List.mem_cons.1 hm with hm | hm
          · exact absurd hm (by decide)
          · rcases List.mem_append.1 hm with hm | hm
            · exact hd _ b0 b1 hm
            · rcases List.mem_cons.1 hm with hm | hm
              · exact absurd hm (by decide)
              · exact hd _ c0 c1 hm
theorem tw10 (m r : Bs) (h : (10 : UInt8) ∉ m) : (m ++ 10 :: r).takeWhile (fun b => b != 10) = m := by
  induction m with
  | nil => rfl
  | cons a m ih =>
    have ha : a ≠ 10 := fun e => h (by simp [e])
    rw [List.cons_append, List.takeWhile_cons, if_pos (by simpa using ha), ih (fun hm => h (by simp [hm]))]
theorem line_first {T rest t : Bs} {x : Rl} {s' : Bs} (h : (∃ m, T = m ++ [10] ∧ (10 : UInt8) ∉ m ∧ s' = T ++ rest) ∨ ((10 : UInt8) ∉ T ∧ rest = [] ∧ s' = T)) (hx : ruleB x = true) (hs : s' = lineS x ++ t) : T = lineS x := by
  obtain ⟨l, hl, hl10⟩ := line_no hx
  rcases h with ⟨m, rfl, hm, he⟩ | ⟨hT, _, he⟩
  · rw [hl, he] at hs
    simp only [List.append_assoc, List.cons_append, List.nil_append] at hs
    have h1 := tw10 m rest hm
    have h2 := tw10 l t hl10
    rw [hs, h2] at h1
    rw [hl, h1]
  · exfalso
    refine hT ?_
    rw [← he, hs, hl]
    simp
theorem go_full {k : Nat} {p : Pr} {s' : Bs} (hne : s' ≠ []) (h : p.length = 24) : parseGo (k + 1) p s' = ([], (p.length : Int) + 1, 130) := by
  unfold parseGo
  rw [if_neg (by simpa using hne), if_pos h, h]
  rfl
theorem go_good {k : Nat} {p : Pr} {s' T rest : Bs} {r : Rl} (hne : s' ≠ []) (hl : p.length ≠ 24) (hs : s' = T ++ rest) (hr : ruleB r = true) (hT : lineS r = T) : parseGo (k + 1) p s' = parseGo k (p ++ [r]) rest := by
  have : ruleP s' = some (r, rest) := by rw [hs, ← hT]; exact ruleP_line r rest hr
  show (if s'.isEmpty then _ else if p.length = 24 then _ else _) = _
  rw [if_neg (by simpa using hne), if_neg hl, this]
theorem go_bad {k : Nat} {p : Pr} {s' T rest : Bs} {r : Rl} (hne : s' ≠ []) (h : (∃ m, T = m ++ [10] ∧ (10 : UInt8) ∉ m ∧ s' = T ++ rest) ∨ ((10 : UInt8) ∉ T ∧ rest = [] ∧ s' = T))
    (hpar : ∀ x : Rl, ruleB x = true → T = lineS x → r = x) (hb : ¬ (ruleB r = true ∧ lineS r = T)) : parseGo (k + 1) p s' = ([], (p.length : Int) + 1, 130) := by
  by_cases hl : p.length = 24
  · exact go_full hne hl
  · have hn : ruleP s' = none := by
      cases hr : ruleP s' with
      | none => rfl
      | some q =>
        obtain ⟨x, t⟩ := q
        obtain ⟨hx, hs⟩ := ruleP_some hr
        have hT := line_first h hx hs
        have := hpar x hx hT
        subst this
        exact absurd ⟨hx, hT.symm⟩ hb
    show (if s'.isEmpty then _ else if p.length = 24 then _ else _) = _
    rw [if_neg (by simpa using hne), if_neg hl, hn]
theorem go_bad' {k : Nat} {rs : List RV} {s' T rest : Bs} {r : Rl} (hne : s' ≠ []) (h : (∃ m, T = m ++ [10] ∧ (10 : UInt8) ∉ m ∧ s' = T ++ rest) ∨ ((10 : UInt8) ∉ T ∧ rest = [] ∧ s' = T))
    (hpar : ∀ x : Rl, ruleB x = true → T = lineS x → r = x) (hb : ¬ (ruleB r = true ∧ lineS r = T)) (hk : s'.length < k) : parseGo k (rs.map (·.1)) s' = ([], (rs.length : Int) + 1, 130) := by
  cases k with
  | zero => omega
  | succ k => rw [go_bad hne h hpar hb, List.length_map]
theorem go_good' {k : Nat} {rs : List RV} {s' T rest : Bs} {r : Rl} (hne : s' ≠ []) (hl : (rs.map (·.1)).length ≠ 24) (hs : s' = T ++ rest) (hr : ruleB r = true) (hT : lineS r = T) (hk : s'.length < k) : parseGo k (rs.map (·.1)) s' = parseGo (k - 1) (rs.map (·.1) ++ [r]) rest := by
  cases k with
  | zero => omega
  | succ k => exact go_good hne hl hs hr hT
theorem go_full' {k : Nat} {rs : List RV} {s' : Bs} (hne : s' ≠ []) (h : (rs.map (·.1)).length = 24) (hk : s'.length < k) : parseGo k (rs.map (·.1)) s' = ([], (rs.length : Int) + 1, 130) := by
  cases k with
  | zero => omega
  | succ k => rw [go_full hne h, List.length_map]
/-- the memory of the loop -/
structure QS (w0 : World) (rs : List RV) (v : Value) (W : World) : Prop where
  pb : W.heap[w0.heap.size + 1]? = some (.cells #[v] 24 (0, 0))
  res : W.heap[w0.heap.size]? = some (.cells #[.slice none 0 0] 24 (0, 0))
  own : W.ownsRow (w0.heap.size + 1 + 1) 55 2 v rs.length (rvCells rs)
  its : ItsOwn (w0.heap.size + 1 + 1) rs W
  low : Below w0.heap.size w0 W
theorem QS.below {w0 W W' : World} {rs : List RV} {v : Value} (h : QS w0 rs v W) (hb : Below W.heap.size W W') : QS w0 rs v W' :=
  ⟨(hb.block _ (heap_lt h.pb)).trans h.pb, (hb.block _ (heap_lt h.res)).trans h.res, own_bel h.own hb, fun q hq => own_bel (h.its q hq) hb, h.low.trans (hb.mono h.low.size)⟩
theorem QS.add {w0 W W2 : World} {rs : List RV} {v v' : Value} {q : RV} (h : QS w0 rs v W) (hq : W.ownsRow (w0.heap.size + 1 + 1) 59 3 q.2 q.1.2.length (itCells q.1.2))
    (hown : W2.ownsRow (w0.heap.size + 1 + 1) 55 2 v' (rs.length + 1) (rvCells rs ++ [.int .i64 q.1.1, q.2])) (hg : W.grownBy W2 v.ownBlock) :
    QS w0 (rs ++ [q]) v' (W2.setCell ⟨w0.heap.size + 1, 0, none⟩ v') := by
  have hbl := heap_lt h.pb
  have hb0 := heap_lt h.res
  have hvb : ∀ j, v.ownBlock = some j → w0.heap.size + 1 + 1 ≤ j := fun j e => (h.own.lt j e).1
  have hb2 : W2.heap[w0.heap.size + 1]? = some (.cells #[v] 24 (0, 0)) := (hg.block _ hbl (fun e => by have := hvb _ e.symm; omega)).trans h.pb
  have hset : W2.grownBy (W2.setCell ⟨w0.heap.size + 1, 0, none⟩ v') (some (w0.heap.size + 1)) := grown_set (grownBel (Below.refl _ _) _) _ _
  have key : ∀ {e z n : Nat} {u : Value} {xs : List Value}, W2.ownsRow (w0.heap.size + 1 + 1) e z u n xs → (W2.setCell ⟨w0.heap.size + 1, 0, none⟩ v').ownsRow (w0.heap.size + 1 + 1) e z u n xs := fun ho => grown_kept ho hset fun j hj => by
    have := (ho.lt j hj).1; simp; omega
  have kit : ∀ r : RV, W.ownsRow (w0.heap.size + 1 + 1) 59 3 r.2 r.1.2.length (itCells r.1.2) → (W2.setCell ⟨w0.heap.size + 1, 0, none⟩ v').ownsRow (w0.heap.size + 1 + 1) 59 3 r.2 r.1.2.length (itCells r.1.2) := fun r hr =>
    key (grown_kept hr hg fun j hj => own_types hr h.own (by decide) j hj)
  refine ⟨one_setCell hb2, ?_, ?_, ?_, ?_⟩
  · exact (hset.block _ (by have := hg.size; omega) (by simp)).trans ((hg.block _ hb0 (fun e => by have := hvb _ e.symm; omega)).trans h.res)
  · rw [List.length_append, List.length_singleton, rvCells_snoc]; exact key hown
  · intro r hr
    rcases List.mem_append.1 hr with hr | hr
    · exact kit r (h.its r hr)
    · obtain rfl : r = q := by simpa using hr
      exact kit r hq
  · refine (h.low.grown hg h.low.size fun k hk => by have := hvb k hk; omega).trans ?_
    exact (Below.refl _ _).setCell (p := ⟨w0.heap.size + 1, 0, none⟩) (by simp) _

theorem no10 {s : Bs} {i j : Nat} (_hjl : j ≤ s.length) (hno : ∀ l, i ≤ l → l < j → s[l]? ≠ some 10) : (10 : UInt8) ∉ (s.take j).drop i := by
  intro h
  obtain ⟨k, hk⟩ := List.getElem?_of_mem h
  rw [List.getElem?_drop, List.getElem?_take] at hk
  split at hk
  · exact hno (i + k) (by omega) (by assumption) hk
  · cases hk
theorem line_cut {s : Bs} {i j : Nat} (hij : i ≤ j) (hjl : j ≤ s.length) (hno : ∀ l, i ≤ l → l < j → s[l]? ≠ some 10) (hend : j = s.length ∨ s[j]? = some 10) :
    ∃ T rest, (s.take (min (j + 1) s.length)).drop i = T ∧ s.drop (j + 1) = rest ∧ s.drop i = T ++ rest ∧ ((∃ m, T = m ++ [10] ∧ (10 : UInt8) ∉ m ∧ s.drop i = T ++ rest) ∨ ((10 : UInt8) ∉ T ∧ rest = [] ∧ s.drop i = T)) := by
  refine ⟨_, _, rfl, rfl, ?_⟩
  rcases Nat.lt_or_ge j s.length with hlt | hge
  · have h10 := hend.resolve_left (by omega)
    have e1 : (s.take (min (j + 1) s.length)).drop i = (s.take j).drop i ++ [10] := by
      rw [Nat.min_eq_left (by omega), List.take_add_one, h10, List.drop_append_of_le_length (by rw [List.length_take]; omega)]
      rfl
    have e2 : s.drop i = ((s.take j).drop i ++ [10]) ++ s.drop (j + 1) := by
      have e := List.take_append_drop (j + 1) s
      have e3 : (s.take (j + 1)).drop i = (s.take j).drop i ++ [10] := by rw [← e1, Nat.min_eq_left (by omega)]
      conv => lhs; rw [← e]
      rw [List.drop_append_of_le_length (by rw [List.length_take]; omega), e3]
    rw [e1]
    exact ⟨e2, .inl ⟨_, rfl, no10 hjl hno, e2⟩⟩
  · obtain rfl : j = s.length := by omega
    have e1 : (s.take (min (s.length + 1) s.length)).drop i = s.drop i := by rw [Nat.min_eq_right (by omega), List.take_length]
    have e2 : s.drop (s.length + 1) = [] := List.drop_of_length_le (by omega)
    have hn := no10 (Nat.le_refl s.length) hno
    rw [List.take_length] at hn
    rw [e1, e2, List.append_nil]
    exact ⟨rfl, .inr ⟨hn, rfl, rfl⟩⟩
theorem QS.fin {w0 W : World} {rs : List RV} {v u : Value} (h : QS w0 rs v W) : Rules (W.setCell ⟨w0.heap.size, 0, none⟩ u) v (rs.map (·.1)) ∧ Below w0.heap.size w0 (W.setCell ⟨w0.heap.size, 0, none⟩ u) := by
  have hset : W.grownBy (W.setCell ⟨w0.heap.size, 0, none⟩ u) (some w0.heap.size) := grown_set (grownBel (Below.refl _ _) _) _ _
  refine ⟨rules_own (grown_kept h.own hset fun j hj => by have := (h.own.lt j hj).1; simp; omega) fun q hq => grown_kept (h.its q hq) hset fun j hj => by have := ((h.its q hq).lt j hj).1; simp; omega, ?_⟩
  exact h.low.setCell (p := ⟨w0.heap.size, 0, none⟩) (Nat.le_refl _) _

set_option maxRecDepth 100000 in
set_option maxHeartbeats 8000000 in
theorem f25_any (s : Bs) (w : World) (hs : s.length ≤ 1000000) : Calls Tryd.prog 25 #[.string (bsA s)] w (ParsePost s w) := by
  have hsz : (bsA s).size = s.length := bsA_size s
  have hst : QS w [] (.slice none 0 0) ((w.alloc (.cells #[.slice none 0 0] 24)).alloc (.cells #[.slice none 0 0] 24)) := by
    refine ⟨?_, ?_, World.ownsRow_nil _ _ _ _, fun q hq => by simp at hq, ((Below.refl _ _).alloc (Nat.le_refl _) _).alloc (by simp) _⟩
    · rw [show w.heap.size + 1 = (w.alloc (.cells #[.slice none 0 0] 24)).heap.size by simp]; exact World.alloc_heap_new _ _
    · exact (((Below.refl _ (w.alloc (.cells #[.slice none 0 0] 24))).alloc (Nat.le_refl _) _).block _ (by simp)).trans (World.alloc_heap_new _ _)
  have HST := Lib.hid hst
  clear hst
  go_enter Tryd.func25, Tryd.ntmps25
  go_wp2_with fail
  go_loopw [6] (fun v6 wr => ∃ (i : Nat) (rs : List RV) (v : Value) (k : Nat), v6 = .int .i64 i ∧ i ≤ s.length + 1 ∧ rs.length ≤ 24 ∧ (s.drop i).length < k ∧ parseF s = parseGo k (rs.map (·.1)) (s.drop i) ∧ QS w rs v wr) (fun v6 _ => s.length + 1 - (intOf v6).toNat)
  case atStart => exact ⟨0, [], _, s.length + 1, rfl, by omega, by simp, by simp, rfl, HST.out⟩
  case round =>
    obtain ⟨i, rs, v, k, rfl, hi, hr24, hk, hpf, hqs⟩ := hrel
    obtain ⟨va, vc, rfl⟩ := own_slice hqs.own
    have HQS := Lib.hid hqs
    have HPF := Lib.hid hpf
    have p0 : wr.cell? ⟨w.heap.size + 1, 0, none⟩ = some (.slice va rs.length vc) := (cell_of_row wr _ 0 _ _ _ hqs.pb).trans rfl
    have q0 : wr.cell? ⟨w.heap.size, 0, none⟩ = some (.slice none 0 0) := (cell_of_row wr _ 0 _ _ _ hqs.res).trans rfl
    have qf : wr.frozen? ⟨w.heap.size, 0, none⟩ = false := frozen_of_row wr _ 0 _ _ hqs.res
    have hwz : w.heap.size + 1 < wr.heap.size := heap_lt hqs.pb
    clear hpf hqs
    by_cases hil : i < s.length
    · have i1 : (i : Int) < (s.length : Int) := by omega
      go_wp2_with fail
      go_loopw [7] (fun v7 wr2 => ∃ j : Nat, v7 = .int .i64 j ∧ i ≤ j ∧ j ≤ s.length ∧ (∀ l, i ≤ l → l < j → s[l]? ≠ some 10) ∧ wr2 = wr) (fun v7 _ => s.length - (intOf v7).toNat)
      case atStart => exact ⟨i, rfl, Nat.le_refl _, by omega, fun l h1 h2 => by omega, rfl⟩
      case round =>
        obtain ⟨j, rfl, hij, hjl, hno, rfl⟩ := hrel
        by_cases hjl2 : j < s.length
        · obtain ⟨c, hc⟩ := get_some s j hjl2
          have hget : (bsA s)[j]'(by rw [bsA_size]; exact hjl2) = c := by
            have e : s[j]'hjl2 = c := by simpa [List.getElem?_eq_getElem hjl2] using hc
            rw [← e]
            rfl
          have j0 : (0 : Int) ≤ (j : Int) := by omega
          have j1 : (j : Int) < (s.length : Int) := by omega
          by_cases h10 : c = 10
          · subst h10
            have HEND := Lib.hid (show j = s.length ∨ s[j]? = some 10 from .inr hc)
            clear hc
            obtain ⟨T, rest, hT, hrest, hsplit, hline⟩ := line_cut hij hjl hno HEND.out
            obtain ⟨m, hm, hm2, hm3⟩ : ∃ m : Nat, min ((j : Int) + 1) (s.length : Int) = (m : Int) ∧ m = min (j + 1) s.length ∧ m ≤ s.length := ⟨min (j + 1) s.length, by omega, rfl, by omega⟩
            have hex : (bsA s).extract i m = bsA T := by rw [bsA_extract, hm2, hT]
            have him : (i : Int) ≤ (m : Int) := by omega
            have hms : (m : Int) ≤ (s.length : Int) := by omega
            have i0 : (0 : Int) ≤ (i : Int) := by omega
            have hTl : T.length ≤ 1000000 := by rw [← hT, List.length_drop, List.length_take]; omega
            have hne : s.drop i ≠ [] := by
              intro h
              have := congrArg List.length h
              rw [List.length_drop, List.length_nil] at this
              omega
            have HLINE := Lib.hid hline
            have HSPLIT := Lib.hid hsplit
            have HREST := Lib.hid hrest
            have HNE := Lib.hid hne
            clear hT hrest hsplit hline hm2 hne hno
            go_wp2_with fail
            refine (f50_any T wr hTl).mono ?_
            rintro e w2 ⟨r, iv, rfl, hri, hb2, hpar⟩
            obtain ⟨ia, ic, rfl⟩ := own_slice hri
            have hb3 : Below w2.heap.size w2 (w2.alloc (.cells #[.int .i64 r.1, .slice ia r.2.length ic] 55)) := (Below.refl _ _).alloc (Nat.le_refl _) _
            have hbw3 : Below wr.heap.size wr (w2.alloc (.cells #[.int .i64 r.1, .slice ia r.2.length ic] 55)) := hb2.trans (hb3.mono hb2.size)
            have HQ3 := Lib.hid (HQS.out.below hbw3)
            have HRI := Lib.hid (own_bel (own_base hri (by have := HQS.out.low.size; omega)) hb3 : (w2.alloc (.cells #[.int .i64 r.1, .slice ia r.2.length ic] 55)).ownsRow (w.heap.size + 1 + 1) 59 3 (.slice ia r.2.length ic) r.2.length (itCells r.2))
            have HPAR := Lib.hid hpar
            have hw2z : w.heap.size + 1 < w2.heap.size := Nat.lt_of_lt_of_le hwz hb2.size
            go_wp2_with fail
            obtain ⟨bx, hbx⟩ : ∃ b, b = w2.heap.size := ⟨_, rfl⟩
            obtain ⟨w3, hw3⟩ : ∃ W, W = w2.alloc (.cells #[.int .i64 r.1, .slice ia r.2.length ic] 55) := ⟨_, rfl⟩
            have x0 : w3.cell? ⟨bx, 0, none⟩ = some (.int .i64 r.1) := by rw [hw3, hbx]; go_simp
            have x1 : w3.cell? ⟨bx, 1, none⟩ = some (.slice ia r.2.length ic) := by rw [hw3, hbx]; go_simp
            rw [← hw3] at HQ3 HRI
            rw [← hw3, ← hbx]
            have X0 := Lib.hid x0
            have X1 := Lib.hid x1
            clear hw3 hbx x0 x1 hri hb2 hb3 hbw3 p0 q0 qf
            refine (f44_any r _ w3 (items_own HRI.out)).mono ?_
            rintro e w4 ⟨rfl, hb4⟩
            have HQ4 := Lib.hid (HQ3.out.below hb4)
            have x0 := keeps_of_below hb4 _ _ X0.out
            have x1 := keeps_of_below hb4 _ _ X1.out
            have p4 : w4.cell? ⟨w.heap.size + 1, 0, none⟩ = some (.slice va rs.length vc) := (cell_of_row w4 _ 0 _ _ _ HQ4.out.pb).trans rfl
            have HRI4 := Lib.hid (own_bel HRI.out hb4)
            clear hb4
            cases hrB : ruleB r with
            | false =>
              have HE := Lib.hid (HPF.out.trans (go_bad' HNE.out HLINE.out HPAR.out (fun h => by rw [hrB] at h; exact absurd h.1 (by simp)) hk))
              clear hrB
              go_wp2_with fail
              obtain ⟨wz, hwz9⟩ : ∃ wz, wz = w4 := ⟨_, rfl⟩
              rw [← hwz9] at HQ4 ⊢
              have HQZ := HQ4
              clear hwz9 p4 x0 x1
              have ewr : IntKind.i64.wrap ((rs.length : Int) + 1) = (rs.length : Int) + 1 := by rw [IntKind.wrap_i64]; omega
              have p9 : wz.cell? ⟨w.heap.size + 1, 0, none⟩ = some (.slice va rs.length vc) := (cell_of_row _ _ 0 _ _ _ HQZ.out.pb).trans rfl
              have q9 : wz.cell? ⟨w.heap.size, 0, none⟩ = some (.slice none 0 0) := (cell_of_row _ _ 0 _ _ _ HQZ.out.res).trans rfl
              have q9f : wz.frozen? ⟨w.heap.size, 0, none⟩ = false := frozen_of_row _ _ 0 _ _ HQZ.out.res
              refine wp_region_ord [(0, true), (1, true), (2, true), (3, true), (4, true), (5, false), (6, true), (7, true)] (fun w' => w'.cell? ⟨w.heap.size + 1, 0, none⟩ = some (.slice va rs.length vc))
                (by kernel_rfl) (by kernel_rfl) rfl (by kernel_rfl) (fun _ _ d _ _ h => by cases d <;> exact h) p9 ?_
              refine wpO_light _ rfl rfl _ (fun w' hS => by go_simp; rfl) ?_
              refine wpO_light _ rfl rfl _ (fun w' hS => by go_simp; rfl) ?_
              go_simp
              refine wpO_light _ rfl rfl _ (fun w' hS => by go_simp; rfl) ?_
              go_simp
              refine wpO_light _ rfl rfl _ (fun w' hS => by go_simp; rfl) ?_
              refine wpO_light _ rfl rfl _ (fun w' hS => by go_simp; rfl) ?_
              go_simp
              refine wpO_skipH _ rfl rfl (wz.drew.setCell ⟨w.heap.size, 0, none⟩ (.slice none 0 0)) ?_ ⟨?_, ?_⟩
              · go_simp
              · go_simp
              refine wpO_light _ rfl rfl _ (fun w' hS => by go_simp; rfl) ?_
              refine wpO_light _ rfl rfl _ (fun w' hS => by go_simp; rfl) ?_
              go_simp
              refine wpO_nil ?_
              have HBz : Hid (Below w.heap.size w (wz.drew.setCell ⟨w.heap.size, 0, none⟩ (.slice none 0 0))) := ((HQZ.out.low.trans ((Below.refl _ wz).drew.mono HQZ.out.low.size)).setCell (p := ⟨w.heap.size, 0, none⟩) (Nat.le_refl _) _)
              have hres : (wz.drew.setCell ⟨w.heap.size, 0, none⟩ (.slice none 0 0)).cell? ⟨w.heap.size, 0, none⟩ = some (.slice none 0 0) := by go_simp
              go_wp2_with fail
              have hres2 : (wz.setCell ⟨w.heap.size, 0, none⟩ (.slice none 0 0)).cell? ⟨w.heap.size, 0, none⟩ = some (.slice none 0 0) := by go_simp
              refine bodyPost_ret (v := .tuple #[.agg #[.slice none 0 0], .int .i64 ((rs.length : Int) + 1), .int .i64 130]) ?_ rfl (mkParse HE.out (.slice none 0 0) rfl ⟨none, 0, rfl, Nat.le_refl _, by decide, fun h => absurd rfl h⟩ HBz.out)
              simp [results, Tryd.results25, go_sem, hres2]
            | true =>
              have hlr := line_len r hrB
              have h48 := f48_any r.1 r.2 (.slice ia r.2.length ic) w4 (items_own HRI4.out) hrB
              obtain ⟨L, hL⟩ : ∃ L, lineS r = L := ⟨_, rfl⟩
              rw [show ((r.1, r.2) : Rl) = r from rfl, hL] at h48
              have H48 := Lib.hid h48
              have E1 : (bsA L).toList = L := isE L
              have E2 : (bsA T).toList = T := isE T
              clear h48
              by_cases hLT : L = T
              · by_cases h24 : rs.length = 24
                · have HE := Lib.hid (HPF.out.trans (go_full' HNE.out (by rw [List.length_map]; exact h24) hk))
                  have d24 : ((rs.length : Int) == 24) = true := by simp; omega
                  have dLT : (L == T) = true := by simpa using hLT
                  have dLT2 : (L != T) = false := by simpa using hLT
                  clear h24 hLT hL hrB
                  go_wp2_with fail
                  refine H48.out.mono ?_
                  rintro e w5 ⟨rfl, hb5⟩
                  have HQ5 := Lib.hid (HQ4.out.below hb5)
                  have p5 : w5.cell? ⟨w.heap.size + 1, 0, none⟩ = some (.slice va rs.length vc) := (cell_of_row w5 _ 0 _ _ _ HQ5.out.pb).trans rfl
                  clear hb5 p4 x0 x1
                  go_wp2_with fail
                  obtain ⟨wz, hwz9⟩ : ∃ wz, wz = w5 := ⟨_, rfl⟩
                  rw [← hwz9] at HQ5 ⊢
                  have HQZ := HQ5
                  clear hwz9 p5
                  have ewr : IntKind.i64.wrap ((rs.length : Int) + 1) = (rs.length : Int) + 1 := by rw [IntKind.wrap_i64]; omega
                  have p9 : wz.cell? ⟨w.heap.size + 1, 0, none⟩ = some (.slice va rs.length vc) := (cell_of_row _ _ 0 _ _ _ HQZ.out.pb).trans rfl
                  have q9 : wz.cell? ⟨w.heap.size, 0, none⟩ = some (.slice none 0 0) := (cell_of_row _ _ 0 _ _ _ HQZ.out.res).trans rfl
                  have q9f : wz.frozen? ⟨w.heap.size, 0, none⟩ = false := frozen_of_row _ _ 0 _ _ HQZ.out.res
                  refine wp_region_ord [(0, true), (1, true), (2, true), (3, true), (4, true), (5, false), (6, true), (7, true)] (fun w' => w'.cell? ⟨w.heap.size + 1, 0, none⟩ = some (.slice va rs.length vc))
                    (by kernel_rfl) (by kernel_rfl) rfl (by kernel_rfl) (fun _ _ d _ _ h => by cases d <;> exact h) p9 ?_
                  refine wpO_light _ rfl rfl _ (fun w' hS => by go_simp; rfl) ?_
                  refine wpO_light _ rfl rfl _ (fun w' hS => by go_simp; rfl) ?_
                  go_simp
                  refine wpO_light _ rfl rfl _ (fun w' hS => by go_simp; rfl) ?_
                  go_simp
                  refine wpO_light _ rfl rfl _ (fun w' hS => by go_simp; rfl) ?_
                  refine wpO_light _ rfl rfl _ (fun w' hS => by go_simp; rfl) ?_
                  go_simp
                  refine wpO_skipH _ rfl rfl (wz.drew.setCell ⟨w.heap.size, 0, none⟩ (.slice none 0 0)) ?_ ⟨?_, ?_⟩
                  · go_simp
                  · go_simp
                  refine wpO_light _ rfl rfl _ (fun w' hS => by go_simp; rfl) ?_
                  refine wpO_light _ rfl rfl _ (fun w' hS => by go_simp; rfl) ?_
                  go_simp
                  refine wpO_nil ?_
                  have HBz : Hid (Below w.heap.size w (wz.drew.setCell ⟨w.heap.size, 0, none⟩ (.slice none 0 0))) := ((HQZ.out.low.trans ((Below.refl _ wz).drew.mono HQZ.out.low.size)).setCell (p := ⟨w.heap.size, 0, none⟩) (Nat.le_refl _) _)
                  have hres : (wz.drew.setCell ⟨w.heap.size, 0, none⟩ (.slice none 0 0)).cell? ⟨w.heap.size, 0, none⟩ = some (.slice none 0 0) := by go_simp
                  go_wp2_with fail
                  have hres2 : (wz.setCell ⟨w.heap.size, 0, none⟩ (.slice none 0 0)).cell? ⟨w.heap.size, 0, none⟩ = some (.slice none 0 0) := by go_simp
                  refine bodyPost_ret (v := .tuple #[.agg #[.slice none 0 0], .int .i64 ((rs.length : Int) + 1), .int .i64 130]) ?_ rfl (mkParse HE.out (.slice none 0 0) rfl ⟨none, 0, rfl, Nat.le_refl _, by decide, fun h => absurd rfl h⟩ HBz.out)
                  simp [results, Tryd.results25, go_sem, hres2]
                · have d24 : ((rs.length : Int) == 24) = false := by simp; omega
                  have dLT : (L == T) = true := by simpa using hLT
                  have dLT2 : (L != T) = false := by simpa using hLT
                  have hgood := go_good' HNE.out (by rw [List.length_map]; exact h24) HSPLIT.out hrB (hL.trans hLT) hk
                  have HGOOD := Lib.hid hgood
                  have hrl : rs.length < 24 := by omega
                  have d25 : ¬ rs.length = 24 := h24
                  obtain ⟨i55, HI55⟩ := part55
                  clear hLT hL hrB h24 hgood
                  go_wp2_with fail
                  refine H48.out.mono ?_
                  rintro e w5 ⟨rfl, hb5⟩
                  have HQ5 := Lib.hid (HQ4.out.below hb5)
                  have HRI5 := Lib.hid (own_bel HRI4.out hb5)
                  have p5 : w5.cell? ⟨w.heap.size + 1, 0, none⟩ = some (.slice va rs.length vc) := (cell_of_row w5 _ 0 _ _ _ HQ5.out.pb).trans rfl
                  have x50 := keeps_of_below hb5 _ _ x0
                  have x51 := keeps_of_below hb5 _ _ x1
                  have hw5 : w.heap.size + 1 < w5.heap.size := heap_lt HQ5.out.pb
                  clear hb5 p4 x0 x1
                  go_wp2_with (at_builtin; refine wpList_append_own_at _ rfl (.tmp 58) (.tmp 60) 22 rfl (w.heap.size + 1 + 1) 55 i55 (.agg #[.int .i64 0, .slice none 0 0]) 2 32 Tryd.underlying22 HI55.out.1 HI55.out.2.1 HI55.out.2.2.1 HI55.out.2.2.2 rfl (by decide) (.slice va rs.length vc) rs.length _ rfl (HQ5.out.own.alloc _) ⟨w5.heap.size, 0, none⟩ 1 1 [.int .i64 r.1, .slice ia r.2.length ic] rfl rfl ?_ ?_ ?_ ?_ ?_ ?_)
                  · exact new_cells _ [.int .i64 r.1, .slice ia r.2.length ic] 55 _ rfl
                  · intro u hu
                    simp only [List.mem_cons, List.not_mem_nil, or_false] at hu
                    rcases hu with rfl | rfl <;> rfl
                  · unfold maxLen; omega
                  · omega
                  · simp only [World.size_alloc]; omega
                  · intro v' w' ho' hg' _ _
                    obtain ⟨a8, c8, rfl⟩ := own_slice ho'
                    have bal : Below w5.heap.size w5 (w5.alloc (.cells #[.int .i64 r.1, .slice ia r.2.length ic] 55)) := (Below.refl _ _).alloc (Nat.le_refl _) _
                    have hadd := (HQ5.out.below bal).add (q := (r, .slice ia r.2.length ic)) (own_bel HRI5.out bal) ho' hg'
                    have hg1 : w5.grownBy w' (Value.slice va rs.length vc).ownBlock := grown_trans (grownBel bal _) hg'
                    have hrb : w'.heap[w.heap.size + 1]? = some (.cells #[.slice va rs.length vc] 24 (0, 0)) := (hg1.block _ hw5 (fun e => by have := (HQ5.out.own.lt _ e.symm).1; omega)).trans HQ5.out.pb
                    have g1 : w'.cell? ⟨w.heap.size + 1, 0, none⟩ = some (.slice va rs.length vc) := (cell_of_row w' _ 0 _ _ _ hrb).trans rfl
                    have gf1 : w'.frozen? ⟨w.heap.size + 1, 0, none⟩ = false := frozen_of_row w' _ 0 _ _ hrb
                    have HADD := Lib.hid hadd
                    clear ho' hg' bal hadd hg1 hrb p5
                    go_wp2_with fail
                    exact ⟨⟨j + 1, rs ++ [(r, .slice ia r.2.length ic)], _, k - 1, by go_num, by omega, by rw [List.length_append, List.length_singleton]; omega, by rw [List.length_drop] at hk ⊢; omega, by rw [HPF.out, HGOOD.out, HREST.out, List.map_append]; rfl, HADD.out⟩, by simp only [intOf]; omega⟩
              · have HE := Lib.hid (HPF.out.trans (go_bad' HNE.out HLINE.out HPAR.out (fun h => hLT (hL.symm.trans h.2)) hk))
                have dLT : (L == T) = false := by simpa using hLT
                have dLT2 : (L != T) = true := by simpa using hLT
                clear hLT hL hrB
                go_wp2_with fail
                refine H48.out.mono ?_
                rintro e w5 ⟨rfl, hb5⟩
                have HQ5 := Lib.hid (HQ4.out.below hb5)
                have p5 : w5.cell? ⟨w.heap.size + 1, 0, none⟩ = some (.slice va rs.length vc) := (cell_of_row w5 _ 0 _ _ _ HQ5.out.pb).trans rfl
                clear hb5 p4 x0 x1
                go_wp2_with fail
                obtain ⟨wz, hwz9⟩ : ∃ wz, wz = w5 := ⟨_, rfl⟩
                rw [← hwz9] at HQ5 ⊢
                have HQZ := HQ5
                clear hwz9 p5
                have ewr : IntKind.i64.wrap ((rs.length : Int) + 1) = (rs.length : Int) + 1 := by rw [IntKind.wrap_i64]; omega
                have p9 : wz.cell? ⟨w.heap.size + 1, 0, none⟩ = some (.slice va rs.length vc) := (cell_of_row _ _ 0 _ _ _ HQZ.out.pb).trans rfl
                have q9 : wz.cell? ⟨w.heap.size, 0, none⟩ = some (.slice none 0 0) := (cell_of_row _ _ 0 _ _ _ HQZ.out.res).trans rfl
                have q9f : wz.frozen? ⟨w.heap.size, 0, none⟩ = false := frozen_of_row _ _ 0 _ _ HQZ.out.res
                refine wp_region_ord [(0, true), (1, true), (2, true), (3, true), (4, true), (5, false), (6, true), (7, true)] (fun w' => w'.cell? ⟨w.heap.size + 1, 0, none⟩ = some (.slice va rs.length vc))
                  (by kernel_rfl) (by kernel_rfl) rfl (by kernel_rfl) (fun _ _ d _ _ h => by cases d <;> exact h) p9 ?_
                refine wpO_light _ rfl rfl _ (fun w' hS => by go_simp; rfl) ?_
                refine wpO_light _ rfl rfl _ (fun w' hS => by go_simp; rfl) ?_
                go_simp
                refine wpO_light _ rfl rfl _ (fun w' hS => by go_simp; rfl) ?_
                go_simp
                refine wpO_light _ rfl rfl _ (fun w' hS => by go_simp; rfl) ?_
                refine wpO_light _ rfl rfl _ (fun w' hS => by go_simp; rfl) ?_
                go_simp
                refine wpO_skipH _ rfl rfl (wz.drew.setCell ⟨w.heap.size, 0, none⟩ (.slice none 0 0)) ?_ ⟨?_, ?_⟩
                · go_simp
                · go_simp
                refine wpO_light _ rfl rfl _ (fun w' hS => by go_simp; rfl) ?_
                refine wpO_light _ rfl rfl _ (fun w' hS => by go_simp; rfl) ?_
                go_simp
                refine wpO_nil ?_
                have HBz : Hid (Below w.heap.size w (wz.drew.setCell ⟨w.heap.size, 0, none⟩ (.slice none 0 0))) := ((HQZ.out.low.trans ((Below.refl _ wz).drew.mono HQZ.out.low.size)).setCell (p := ⟨w.heap.size, 0, none⟩) (Nat.le_refl _) _)
                have hres : (wz.drew.setCell ⟨w.heap.size, 0, none⟩ (.slice none 0 0)).cell? ⟨w.heap.size, 0, none⟩ = some (.slice none 0 0) := by go_simp
                go_wp2_with fail
                have hres2 : (wz.setCell ⟨w.heap.size, 0, none⟩ (.slice none 0 0)).cell? ⟨w.heap.size, 0, none⟩ = some (.slice none 0 0) := by go_simp
                refine bodyPost_ret (v := .tuple #[.agg #[.slice none 0 0], .int .i64 ((rs.length : Int) + 1), .int .i64 130]) ?_ rfl (mkParse HE.out (.slice none 0 0) rfl ⟨none, 0, rfl, Nat.le_refl _, by decide, fun h => absurd rfl h⟩ HBz.out)
                simp [results, Tryd.results25, go_sem, hres2]
          · have hne10 : (c.toNat : Int) ≠ 10 := fun e => h10 (UInt8.toNat_inj.1 (by have : c.toNat = 10 := by omega
                                                                                     exact this))
            have hd : ((c.toNat : Int) == 10) = false := by simpa using hne10
            have hd2 : ((c.toNat : Int) != 10) = true := by simpa using hne10
            have HNO := Lib.hid hno
            have HC := Lib.hid hc
            clear hc
            go_wp2_with fail
            exact ⟨⟨j + 1, by go_num, by omega, by omega, fun l h1 h2 => by
              rcases Nat.lt_succ_iff_lt_or_eq.1 h2 with h | rfl
              · exact HNO.out l h1 h
              · rw [HC.out]; simpa using h10, trivial⟩, by simp only [intOf]; omega⟩
        · have HEND := Lib.hid (show j = s.length ∨ s[j]? = some 10 from .inl (by omega))
          obtain ⟨T, rest, hT, hrest, hsplit, hline⟩ := line_cut hij hjl hno HEND.out
          obtain ⟨m, hm, hm2, hm3⟩ : ∃ m : Nat, min ((j : Int) + 1) (s.length : Int) = (m : Int) ∧ m = min (j + 1) s.length ∧ m ≤ s.length := ⟨min (j + 1) s.length, by omega, rfl, by omega⟩
          have hex : (bsA s).extract i m = bsA T := by rw [bsA_extract, hm2, hT]
          have him : (i : Int) ≤ (m : Int) := by omega
          have hms : (m : Int) ≤ (s.length : Int) := by omega
          have i0 : (0 : Int) ≤ (i : Int) := by omega
          have hTl : T.length ≤ 1000000 := by rw [← hT, List.length_drop, List.length_take]; omega
          have hne : s.drop i ≠ [] := by
            intro h
            have := congrArg List.length h
            rw [List.length_drop, List.length_nil] at this
            omega
          have HLINE := Lib.hid hline
          have HSPLIT := Lib.hid hsplit
          have HREST := Lib.hid hrest
          have HNE := Lib.hid hne
          clear hT hrest hsplit hline hm2 hne hno
          go_wp2_with fail
          refine (f50_any T wr hTl).mono ?_
          rintro e w2 ⟨r, iv, rfl, hri, hb2, hpar⟩
          obtain ⟨ia, ic, rfl⟩ := own_slice hri
          have hb3 : Below w2.heap.size w2 (w2.alloc (.cells #[.int .i64 r.1, .slice ia r.2.length ic] 55)) := (Below.refl _ _).alloc (Nat.le_refl _) _
          have hbw3 : Below wr.heap.size wr (w2.alloc (.cells #[.int .i64 r.1, .slice ia r.2.length ic] 55)) := hb2.trans (hb3.mono hb2.size)
          have HQ3 := Lib.hid (HQS.out.below hbw3)
          have HRI := Lib.hid (own_bel (own_base hri (by have := HQS.out.low.size; omega)) hb3 : (w2.alloc (.cells #[.int .i64 r.1, .slice ia r.2.length ic] 55)).ownsRow (w.heap.size + 1 + 1) 59 3 (.slice ia r.2.length ic) r.2.length (itCells r.2))
          have HPAR := Lib.hid hpar
          have hw2z : w.heap.size + 1 < w2.heap.size := Nat.lt_of_lt_of_le hwz hb2.size
          go_wp2_with fail
          obtain ⟨bx, hbx⟩ : ∃ b, b = w2.heap.size := ⟨_, rfl⟩
          obtain ⟨w3, hw3⟩ : ∃ W, W = w2.alloc (.cells #[.int .i64 r.1, .slice ia r.2.length ic] 55) := ⟨_, rfl⟩
          have x0 : w3.cell? ⟨bx, 0, none⟩ = some (.int .i64 r.1) := by rw [hw3, hbx]; go_simp
          have x1 : w3.cell? ⟨bx, 1, none⟩ = some (.slice ia r.2.length ic) := by rw [hw3, hbx]; go_simp
          rw [← hw3] at HQ3 HRI
          rw [← hw3, ← hbx]
          have X0 := Lib.hid x0
          have X1 := Lib.hid x1
          clear hw3 hbx x0 x1 hri hb2 hb3 hbw3 p0 q0 qf
          refine (f44_any r _ w3 (items_own HRI.out)).mono ?_
          rintro e w4 ⟨rfl, hb4⟩
          have HQ4 := Lib.hid (HQ3.out.below hb4)
          have x0 := keeps_of_below hb4 _ _ X0.out
          have x1 := keeps_of_below hb4 _ _ X1.out
          have p4 : w4.cell? ⟨w.heap.size + 1, 0, none⟩ = some (.slice va rs.length vc) := (cell_of_row w4 _ 0 _ _ _ HQ4.out.pb).trans rfl
          have HRI4 := Lib.hid (own_bel HRI.out hb4)
          clear hb4
          cases hrB : ruleB r with
          | false =>
            have HE := Lib.hid (HPF.out.trans (go_bad' HNE.out HLINE.out HPAR.out (fun h => by rw [hrB] at h; exact absurd h.1 (by simp)) hk))
            clear hrB
            go_wp2_with fail
            obtain ⟨wz, hwz9⟩ : ∃ wz, wz = w4 := ⟨_, rfl⟩
            rw [← hwz9] at HQ4 ⊢
            have HQZ := HQ4
            clear hwz9 p4 x0 x1
            have ewr : IntKind.i64.wrap ((rs.length : Int) + 1) = (rs.length : Int) + 1 := by rw [IntKind.wrap_i64]; omega
            have p9 : wz.cell? ⟨w.heap.size + 1, 0, none⟩ = some (.slice va rs.length vc) := (cell_of_row _ _ 0 _ _ _ HQZ.out.pb).trans rfl
            have q9 : wz.cell? ⟨w.heap.size, 0, none⟩ = some (.slice none 0 0) := (cell_of_row _ _ 0 _ _ _ HQZ.out.res).trans rfl
            have q9f : wz.frozen? ⟨w.heap.size, 0, none⟩ = false := frozen_of_row _ _ 0 _ _ HQZ.out.res
            refine wp_region_ord [(0, true), (1, true), (2, true), (3, true), (4, true), (5, false), (6, true), (7, true)] (fun w' => w'.cell? ⟨w.heap.size + 1, 0, none⟩ = some (.slice va rs.length vc))
              (by kernel_rfl) (by kernel_rfl) rfl (by kernel_rfl) (fun _ _ d _ _ h => by cases d <;> exact h) p9 ?_
            refine wpO_light _ rfl rfl _ (fun w' hS => by go_simp; rfl) ?_
            refine wpO_light _ rfl rfl _ (fun w' hS => by go_simp; rfl) ?_
            go_simp
            refine wpO_light _ rfl rfl _ (fun w' hS => by go_simp; rfl) ?_
            go_simp
            refine wpO_light _ rfl rfl _ (fun w' hS => by go_simp; rfl) ?_
            refine wpO_light _ rfl rfl _ (fun w' hS => by go_simp; rfl) ?_
            go_simp
            refine wpO_skipH _ rfl rfl (wz.drew.setCell ⟨w.heap.size, 0, none⟩ (.slice none 0 0)) ?_ ⟨?_, ?_⟩
            · go_simp
            · go_simp
            refine wpO_light _ rfl rfl _ (fun w' hS => by go_simp; rfl) ?_
            refine wpO_light _ rfl rfl _ (fun w' hS => by go_simp; rfl) ?_
            go_simp
            refine wpO_nil ?_
            have HBz : Hid (Below w.heap.size w (wz.drew.setCell ⟨w.heap.size, 0, none⟩ (.slice none 0 0))) := ((HQZ.out.low.trans ((Below.refl _ wz).drew.mono HQZ.out.low.size)).setCell (p := ⟨w.heap.size, 0, none⟩) (Nat.le_refl _) _)
            have hres : (wz.drew.setCell ⟨w.heap.size, 0, none⟩ (.slice none 0 0)).cell? ⟨w.heap.size, 0, none⟩ = some (.slice none 0 0) := by go_simp
            go_wp2_with fail
            have hres2 : (wz.setCell ⟨w.heap.size, 0, none⟩ (.slice none 0 0)).cell? ⟨w.heap.size, 0, none⟩ = some (.slice none 0 0) := by go_simp
            refine bodyPost_ret (v := .tuple #[.agg #[.slice none 0 0], .int .i64 ((rs.length : Int) + 1), .int .i64 130]) ?_ rfl (mkParse HE.out (.slice none 0 0) rfl ⟨none, 0, rfl, Nat.le_refl _, by decide, fun h => absurd rfl h⟩ HBz.out)
            simp [results, Tryd.results25, go_sem, hres2]
          | true =>
            have hlr := line_len r hrB
            have h48 := f48_any r.1 r.2 (.slice ia r.2.length ic) w4 (items_own HRI4.out) hrB
            obtain ⟨L, hL⟩ : ∃ L, lineS r = L := ⟨_, rfl⟩
            rw [show ((r.1, r.2) : Rl) = r from rfl, hL] at h48
            have H48 := Lib.hid h48
            have E1 : (bsA L).toList = L := isE L
            have E2 : (bsA T).toList = T := isE T
            clear h48
            by_cases hLT : L = T
            · by_cases h24 : rs.length = 24
              · have HE := Lib.hid (HPF.out.trans (go_full' HNE.out (by rw [List.length_map]; exact h24) hk))
                have d24 : ((rs.length : Int) == 24) = true := by simp; omega
                have dLT : (L == T) = true := by simpa using hLT
                have dLT2 : (L != T) = false := by simpa using hLT
                clear h24 hLT hL hrB
                go_wp2_with fail
                refine H48.out.mono ?_
                rintro e w5 ⟨rfl, hb5⟩
                have HQ5 := Lib.hid (HQ4.out.below hb5)
                have p5 : w5.cell? ⟨w.heap.size + 1, 0, none⟩ = some (.slice va rs.length vc) := (cell_of_row w5 _ 0 _ _ _ HQ5.out.pb).trans rfl
                clear hb5 p4 x0 x1
                go_wp2_with fail
                obtain ⟨wz, hwz9⟩ : ∃ wz, wz = w5 := ⟨_, rfl⟩
                rw [← hwz9] at HQ5 ⊢
                have HQZ := HQ5
                clear hwz9 p5
                have ewr : IntKind.i64.wrap ((rs.length : Int) + 1) = (rs.length : Int) + 1 := by rw [IntKind.wrap_i64]; omega
                have p9 : wz.cell? ⟨w.heap.size + 1, 0, none⟩ = some (.slice va rs.length vc) := (cell_of_row _ _ 0 _ _ _ HQZ.out.pb).trans rfl
                have q9 : wz.cell? ⟨w.heap.size, 0, none⟩ = some (.slice none 0 0) := (cell_of_row _ _ 0 _ _ _ HQZ.out.res).trans rfl
                have q9f : wz.frozen? ⟨w.heap.size, 0, none⟩ = false := frozen_of_row _ _ 0 _ _ HQZ.out.res
                refine wp_region_ord [(0, true), (1, true), (2, true), (3, true), (4, true), (5, false), (6, true), (7, true)] (fun w' => w'.cell? ⟨w.heap.size + 1, 0, none⟩ = some (.slice va rs.length vc))
                  (by kernel_rfl) (by kernel_rfl) rfl (by kernel_rfl) (fun _ _ d _ _ h => by cases d <;> exact h) p9 ?_
                refine wpO_light _ rfl rfl _ (fun w' hS => by go_simp; rfl) ?_
                refine wpO_light _ rfl rfl _ (fun w' hS => by go_simp; rfl) ?_
                go_simp
                refine wpO_light _ rfl rfl _ (fun w' hS => by go_simp; rfl) ?_
                go_simp
                refine wpO_light _ rfl rfl _ (fun w' hS => by go_simp; rfl) ?_
                refine wpO_light _ rfl rfl _ (fun w' hS => by go_simp; rfl) ?_
                go_simp
                refine wpO_skipH _ rfl rfl (wz.drew.setCell ⟨w.heap.size, 0, none⟩ (.slice none 0 0)) ?_ ⟨?_, ?_⟩
                · go_simp
                · go_simp
                refine wpO_light _ rfl rfl _ (fun w' hS => by go_simp; rfl) ?_
                refine wpO_light _ rfl rfl _ (fun w' hS => by go_simp; rfl) ?_
                go_simp
                refine wpO_nil ?_
                have HBz : Hid (Below w.heap.size w (wz.drew.setCell ⟨w.heap.size, 0, none⟩ (.slice none 0 0))) := ((HQZ.out.low.trans ((Below.refl _ wz).drew.mono HQZ.out.low.size)).setCell (p := ⟨w.heap.size, 0, none⟩) (Nat.le_refl _) _)
                have hres : (wz.drew.setCell ⟨w.heap.size, 0, none⟩ (.slice none 0 0)).cell? ⟨w.heap.size, 0, none⟩ = some (.slice none 0 0) := by go_simp
                go_wp2_with fail
                have hres2 : (wz.setCell ⟨w.heap.size, 0, none⟩ (.slice none 0 0)).cell? ⟨w.heap.size, 0, none⟩ = some (.slice none 0 0) := by go_simp
                refine bodyPost_ret (v := .tuple #[.agg #[.slice none 0 0], .int .i64 ((rs.length : Int) + 1), .int .i64 130]) ?_ rfl (mkParse HE.out (.slice none 0 0) rfl ⟨none, 0, rfl, Nat.le_refl _, by decide, fun h => absurd rfl h⟩ HBz.out)
                simp [results, Tryd.results25, go_sem, hres2]
              · have d24 : ((rs.length : Int) == 24) = false := by simp; omega
                have dLT : (L == T) = true := by simpa using hLT
                have dLT2 : (L != T) = false := by simpa using hLT
                have hgood := go_good' HNE.out (by rw [List.length_map]; exact h24) HSPLIT.out hrB (hL.trans hLT) hk
                have HGOOD := Lib.hid hgood
                have hrl : rs.length < 24 := by omega
                have d25 : ¬ rs.length = 24 := h24
                obtain ⟨i55, HI55⟩ := part55
                clear hLT hL hrB h24 hgood
                go_wp2_with fail
                refine H48.out.mono ?_
                rintro e w5 ⟨rfl, hb5⟩
                have HQ5 := Lib.hid (HQ4.out.below hb5)
                have HRI5 := Lib.hid (own_bel HRI4.out hb5)
                have p5 : w5.cell? ⟨w.heap.size + 1, 0, none⟩ = some (.slice va rs.length vc) := (cell_of_row w5 _ 0 _ _ _ HQ5.out.pb).trans rfl
                have x50 := keeps_of_below hb5 _ _ x0
                have x51 := keeps_of_below hb5 _ _ x1
                have hw5 : w.heap.size + 1 < w5.heap.size := heap_lt HQ5.out.pb
                clear hb5 p4 x0 x1
                go_wp2_with (at_builtin; refine wpList_append_own_at _ rfl (.tmp 58) (.tmp 60) 22 rfl (w.heap.size + 1 + 1) 55 i55 (.agg #[.int .i64 0, .slice none 0 0]) 2 32 Tryd.underlying22 HI55.out.1 HI55.out.2.1 HI55.out.2.2.1 HI55.out.2.2.2 rfl (by decide) (.slice va rs.length vc) rs.length _ rfl (HQ5.out.own.alloc _) ⟨w5.heap.size, 0, none⟩ 1 1 [.int .i64 r.1, .slice ia r.2.length ic] rfl rfl ?_ ?_ ?_ ?_ ?_ ?_)
                · exact new_cells _ [.int .i64 r.1, .slice ia r.2.length ic] 55 _ rfl
                · intro u hu
                  simp only [List.mem_cons, List.not_mem_nil, or_false] at hu
                  rcases hu with rfl | rfl <;> rfl
                · unfold maxLen; omega
                · omega
                · simp only [World.size_alloc]; omega
                · intro v' w' ho' hg' _ _
                  obtain ⟨a8, c8, rfl⟩ := own_slice ho'
                  have bal : Below w5.heap.size w5 (w5.alloc (.cells #[.int .i64 r.1, .slice ia r.2.length ic] 55)) := (Below.refl _ _).alloc (Nat.le_refl _) _
                  have hadd := (HQ5.out.below bal).add (q := (r, .slice ia r.2.length ic)) (own_bel HRI5.out bal) ho' hg'
                  have hg1 : w5.grownBy w' (Value.slice va rs.length vc).ownBlock := grown_trans (grownBel bal _) hg'
                  have hrb : w'.heap[w.heap.size + 1]? = some (.cells #[.slice va rs.length vc] 24 (0, 0)) := (hg1.block _ hw5 (fun e => by have := (HQ5.out.own.lt _ e.symm).1; omega)).trans HQ5.out.pb
                  have g1 : w'.cell? ⟨w.heap.size + 1, 0, none⟩ = some (.slice va rs.length vc) := (cell_of_row w' _ 0 _ _ _ hrb).trans rfl
                  have gf1 : w'.frozen? ⟨w.heap.size + 1, 0, none⟩ = false := frozen_of_row w' _ 0 _ _ hrb
                  have HADD := Lib.hid hadd
                  clear ho' hg' bal hadd hg1 hrb p5
                  go_wp2_with fail
                  exact ⟨⟨j + 1, rs ++ [(r, .slice ia r.2.length ic)], _, k - 1, by go_num, by omega, by rw [List.length_append, List.length_singleton]; omega, by rw [List.length_drop] at hk ⊢; omega, by rw [HPF.out, HGOOD.out, HREST.out, List.map_append]; rfl, HADD.out⟩, by simp only [intOf]; omega⟩
            · have HE := Lib.hid (HPF.out.trans (go_bad' HNE.out HLINE.out HPAR.out (fun h => hLT (hL.symm.trans h.2)) hk))
              have dLT : (L == T) = false := by simpa using hLT
              have dLT2 : (L != T) = true := by simpa using hLT
              clear hLT hL hrB
              go_wp2_with fail
              refine H48.out.mono ?_
              rintro e w5 ⟨rfl, hb5⟩
              have HQ5 := Lib.hid (HQ4.out.below hb5)
              have p5 : w5.cell? ⟨w.heap.size + 1, 0, none⟩ = some (.slice va rs.length vc) := (cell_of_row w5 _ 0 _ _ _ HQ5.out.pb).trans rfl
              clear hb5 p4 x0 x1
              go_wp2_with fail
              obtain ⟨wz, hwz9⟩ : ∃ wz, wz = w5 := ⟨_, rfl⟩
              rw [← hwz9] at HQ5 ⊢
              have HQZ := HQ5
              clear hwz9 p5
              have ewr : IntKind.i64.wrap ((rs.length : Int) + 1) = (rs.length : Int) + 1 := by rw [IntKind.wrap_i64]; omega
              have p9 : wz.cell? ⟨w.heap.size + 1, 0, none⟩ = some (.slice va rs.length vc) := (cell_of_row _ _ 0 _ _ _ HQZ.out.pb).trans rfl
              have q9 : wz.cell? ⟨w.heap.size, 0, none⟩ = some (.slice none 0 0) := (cell_of_row _ _ 0 _ _ _ HQZ.out.res).trans rfl
              have q9f : wz.frozen? ⟨w.heap.size, 0, none⟩ = false := frozen_of_row _ _ 0 _ _ HQZ.out.res
              refine wp_region_ord [(0, true), (1, true), (2, true), (3, true), (4, true), (5, false), (6, true), (7, true)] (fun w' => w'.cell? ⟨w.heap.size + 1, 0, none⟩ = some (.slice va rs.length vc))
                (by kernel_rfl) (by kernel_rfl) rfl (by kernel_rfl) (fun _ _ d _ _ h => by cases d <;> exact h) p9 ?_
              refine wpO_light _ rfl rfl _ (fun w' hS => by go_simp; rfl) ?_
              refine wpO_light _ rfl rfl _ (fun w' hS => by go_simp; rfl) ?_
              go_simp
              refine wpO_light _ rfl rfl _ (fun w' hS => by go_simp; rfl) ?_
              go_simp
              refine wpO_light _ rfl rfl _ (fun w' hS => by go_simp; rfl) ?_
              refine wpO_light _ rfl rfl _ (fun w' hS => by go_simp; rfl) ?_
              go_simp
              refine wpO_skipH _ rfl rfl (wz.drew.setCell ⟨w.heap.size, 0, none⟩ (.slice none 0 0)) ?_ ⟨?_, ?_⟩
              · go_simp
              · go_simp
              refine wpO_light _ rfl rfl _ (fun w' hS => by go_simp; rfl) ?_
              refine wpO_light _ rfl rfl _ (fun w' hS => by go_simp; rfl) ?_
              go_simp
              refine wpO_nil ?_
              have HBz : Hid (Below w.heap.size w (wz.drew.setCell ⟨w.heap.size, 0, none⟩ (.slice none 0 0))) := ((HQZ.out.low.trans ((Below.refl _ wz).drew.mono HQZ.out.low.size)).setCell (p := ⟨w.heap.size, 0, none⟩) (Nat.le_refl _) _)
              have hres : (wz.drew.setCell ⟨w.heap.size, 0, none⟩ (.slice none 0 0)).cell? ⟨w.heap.size, 0, none⟩ = some (.slice none 0 0) := by go_simp
              go_wp2_with fail
              have hres2 : (wz.setCell ⟨w.heap.size, 0, none⟩ (.slice none 0 0)).cell? ⟨w.heap.size, 0, none⟩ = some (.slice none 0 0) := by go_simp
              refine bodyPost_ret (v := .tuple #[.agg #[.slice none 0 0], .int .i64 ((rs.length : Int) + 1), .int .i64 130]) ?_ rfl (mkParse HE.out (.slice none 0 0) rfl ⟨none, 0, rfl, Nat.le_refl _, by decide, fun h => absurd rfl h⟩ HBz.out)
              simp [results, Tryd.results25, go_sem, hres2]
    · have hdn : s.drop i = [] := List.drop_of_length_le (by omega)
      have hfin : parseF s = (rs.map (·.1), 0, 0) := by
        rw [HPF.out, hdn]
        cases k with
        | zero => omega
        | succ k => rfl
      have HFIN := Lib.hid hfin
      have i1 : ¬ (i : Int) < (s.length : Int) := by omega
      clear hdn hfin
      go_wp2_with fail
      obtain ⟨hr, hb⟩ := HQS.out.fin (u := .slice va rs.length vc)
      have hres : (wr.setCell ⟨w.heap.size, 0, none⟩ (.slice va rs.length vc)).cell? ⟨w.heap.size, 0, none⟩ = some (.slice va rs.length vc) := by go_simp
      refine bodyPost_ret (v := .tuple #[.agg #[.slice va rs.length vc], .int .i64 0, .int .i64 0]) ?_ rfl (mkParse HFIN.out _ rfl hr hb)
      simp [results, Tryd.results25, go_sem, hres]
end Go.Proofs.YteilaajjpjhijaaDoor
namespace Go.Proofs.YteilaajjpjhijaaDoor
open Go.RowKit PSpec
theorem rules_slice4 {w : World} {v : Value} {p : Pr} (h : Rules w v p) : ∃ a c, v = .slice a p.length c := by
  obtain ⟨a, c, rfl, _⟩ := h; exact ⟨a, c, rfl⟩
/-- cells that hold no text lie as they lay -/
def NoS (w w' : World) : Prop := ∀ a u, w.cell? a = some u → (∀ t, u ≠ .string t) → w'.cell? a = some u
theorem NoS.trans {a b c : World} (h : NoS a b) (k : Keeps b c) : NoS a c := fun x v e hs => k x v (h x v e hs)
theorem NoS.items {w w' : World} (k : NoS w w') {v : Value} {its : List It} (h : Items w v its) : Items w' v its := by
  obtain ⟨a, c, e, h1, h2, h3⟩ := h
  refine ⟨a, c, e, h1, h2, fun hne => ?_⟩
  obtain ⟨b, o, e, hc⟩ := h3 hne
  refine ⟨b, o, e, fun i x hx => ?_⟩
  obtain ⟨c0, c1, c2⟩ := hc i x hx
  exact ⟨k _ _ c0 (fun t h => by cases h), k _ _ c1 (fun t h => by cases h), k _ _ c2 (fun t h => by cases h)⟩
theorem NoS.rules {w w' : World} (k : NoS w w') {v : Value} {p : Pr} (h : Rules w v p) : Rules w' v p := by
  obtain ⟨a, c, e, h1, h2, h3⟩ := h
  refine ⟨a, c, e, h1, h2, fun hne => ?_⟩
  obtain ⟨b, o, e, hc⟩ := h3 hne
  refine ⟨b, o, e, fun i r hr => ?_⟩
  obtain ⟨c0, iv, c1, ci⟩ := hc i r hr
  obtain ⟨ia, ic, hie, _⟩ := id ci
  exact ⟨k _ _ c0 (fun t h => by cases h), iv, k _ _ c1 (fun t h => by rw [hie] at h; cases h), k.items ci⟩
def txC (L : List Bs) : List Value := L.map fun t => .string (bsA t)
/-- the texts so far: a row of the call's own, begun at block g -/
structure TxS (wA : World) (g : Nat) (L : List Bs) (v : Value) (W : World) : Prop where
  own : W.ownsRow g 9 1 v L.length (txC L)
  blk : v.ownBlock = some g ∨ ∃ j, v.ownBlock = some j ∧ wA.heap.size ≤ j
  ns : NoS wA W
  len : ∀ t, t ∈ L → t.length ≤ 10000
  size : wA.heap.size ≤ W.heap.size
theorem TxS.below {wA W W' : World} {g : Nat} {L : List Bs} {v : Value} (h : TxS wA g L v W) (hb : Below W.heap.size W W') : TxS wA g L v W' :=
  ⟨own_bel h.own hb, h.blk, h.ns.trans (keeps_of_below hb), h.len, Nat.le_trans h.size hb.size⟩
theorem TxS.add {wA W W2 : World} {g : Nat} {L N : List Bs} {v v' : Value} (h : TxS wA g L v W) (hgA : ∀ o u, wA.cell? ⟨g, o, none⟩ = some u → ∃ t, u = .string t) (hown : W2.ownsRow g 9 1 v' (L.length + N.length) (txC L ++ txC N)) (hg : W.grownBy W2 v.ownBlock)
    (hv : v'.ownBlock = v.ownBlock ∨ v'.ownBlock = some W.heap.size) (hN : ∀ t, t ∈ N → t.length ≤ 10000) : TxS wA g (L ++ N) v' W2 := by
  refine ⟨?_, ?_, fun a u hu hs => ?_, fun t ht => ?_, Nat.le_trans h.size hg.size⟩
  · rw [List.length_append]
    unfold txC at hown ⊢
    rw [List.map_append]
    exact hown
  · rcases hv with hv | hv
    · rw [hv]; exact h.blk
    · exact .inr ⟨_, hv, h.size⟩
  · have hW := h.ns a u hu hs
    have hlt := World.block_lt_of_cell? W a hW
    have hne : some a.block ≠ v.ownBlock := by
      rcases h.blk with hb | ⟨j, hb, hj⟩
      · rw [hb]
        intro e
        have e' : a.block = g := by simpa using e
        obtain ⟨b, o, sp⟩ := a
        simp only at e'
        subst e'
        have hsp : sp = none := World.cell?_spot hu
        subst hsp
        obtain ⟨t, ht⟩ := hgA o u hu
        exact hs t ht
      · rw [hb]
        intro e
        have e' : a.block = j := by simpa using e
        have := World.block_lt_of_cell? wA a hu
        omega
    rw [World.cell?_of_block (w := W) (hg.block a.block hlt hne)]
    exact hW
  · rcases List.mem_append.1 ht with ht | ht
    · exact h.len t ht
    · exact hN t ht
theorem TxS.other {wA W W' : World} {g b : Nat} {L : List Bs} {v : Value} (h : TxS wA g L v W) (hg : W.grownBy W' (some b)) (hb : wA.heap.size ≤ b) (hne : ∀ j, v.ownBlock = some j → j ≠ b) : TxS wA g L v W' := by
  refine ⟨grown_kept h.own hg fun j hj e => hne j hj (by simpa using e), h.blk, fun a u hu hs => ?_, h.len, Nat.le_trans h.size hg.size⟩
  have hW := h.ns a u hu hs
  have hlt := World.block_lt_of_cell? W a hW
  have hA := World.block_lt_of_cell? wA a hu
  rw [World.cell?_of_block (w := W) (hg.block a.block hlt (fun e => by
    have e' : a.block = b := by simpa using e
    omega))]
  exact hW
theorem bytes_run (A : Bs) (w : World) : ∃ cap w8, (convert 9 44 (.string (bsA A))).run Tryd.prog w = .ok (.slice (some ⟨w.heap.size, 0, none⟩) A.length cap) w8 ∧ Below w.heap.size w w8 ∧
    (∀ j b, A[j]? = some b → w8.cell? ⟨w.heap.size, j, none⟩ = some (.int .u8 (b.toNat : Int))) ∧ (∀ j, j < A.length → w8.frozen? ⟨w.heap.size, j, none⟩ = false) ∧ w.heap.size < w8.heap.size := by
  have hr := run_bytes_of_string (P := Tryd.prog) w 9 44 5 (bsA A) Tryd.underlying9 Tryd.underlying44 Tryd.underlying5
  rw [bsA_size] at hr
  refine ⟨_, _, hr, (Below.refl _ w).drew.trans ((Below.refl _ w.drew).alloc (Nat.le_refl _) _), fun j b hb => ?_, fun j hj => ?_, by simp⟩
  · have hn := World.alloc_heap_new w.drew (.cells (bytesRow (bsA A) (grownCap w A.length 0 5)) 5 ((bytesRow (bsA A) (grownCap w A.length 0 5)).size, (bytesRow (bsA A) (grownCap w A.length 0 5)).size + 1))
    have hj := (List.getElem?_eq_some_iff.1 hb).1
    have hrow : (bytesRow (bsA A) (grownCap w A.length 0 5))[j]? = some (.int .u8 (b.toNat : Int)) := by
      unfold bytesRow
      rw [Array.getElem?_append_left (by simpa [bsA] using hj), Array.getElem?_map]
      have : (bsA A).data[j]? = some b := by simpa [bsA] using hb
      rw [this]
      rfl
    have hn' : (w.drew.alloc (.cells (bytesRow (bsA A) (grownCap w A.length 0 5)) 5 ((bytesRow (bsA A) (grownCap w A.length 0 5)).size, (bytesRow (bsA A) (grownCap w A.length 0 5)).size + 1))).heap[w.heap.size]? = _ := hn
    unfold World.cell?
    simp only [hn']
    exact hrow
  · have hn := World.alloc_heap_new w.drew (.cells (bytesRow (bsA A) (grownCap w A.length 0 5)) 5 ((bytesRow (bsA A) (grownCap w A.length 0 5)).size, (bytesRow (bsA A) (grownCap w A.length 0 5)).size + 1))
    have hrs : A.length ≤ (bytesRow (bsA A) (grownCap w A.length 0 5)).size := by
      unfold bytesRow
      rw [Array.size_append, Array.size_map]
      have : (bsA A).data.size = A.length := by simp [bsA]
      omega
    have hn' : (w.drew.alloc (.cells (bytesRow (bsA A) (grownCap w A.length 0 5)) 5 ((bytesRow (bsA A) (grownCap w A.length 0 5)).size, (bytesRow (bsA A) (grownCap w A.length 0 5)).size + 1))).heap[w.heap.size]? = _ := hn
    unfold World.frozen?
    simp only [hn']
    simp
    omega
theorem part9 : ∃ i0, Hid (Tryd.prog.info? 9 = some i0 ∧ i0.zero = some (.string ⟨#[]⟩) ∧ i0.size = 1 ∧ i0.bytes = 16) := by
  obtain ⟨i0, hi, hz0, hz1, hz2⟩ := info_parts (P := Tryd.prog) (e := 9) (z := .string ⟨#[]⟩) (size := 1) (bytes := 16) (by kernel_rfl)
  exact ⟨i0, hi, hz0, hz1, hz2⟩
theorem printF_any (p : Pr) : (printF p).1.length ≤ 2000 := by
  cases h : validB p with
  | false => rw [printF_f4 h]; simp
  | true =>
    rw [printF_t4 h]
    have h' := h
    unfold validB at h'
    simp only [Bool.and_eq_true, decide_eq_true_eq] at h'
    have := print_len p h'.2
    show (printS p).length ≤ 2000
    omega
theorem pcall4 {p : Pr} {s : Bs} {e : Int} (h : printF p = (s, e)) (pv : Value) (w : World) (hp : Rules w pv p) : Calls Tryd.prog 22 #[.agg #[pv]] w fun en w' => en = .returned (.tuple #[.string (bsA s), .int .i64 e]) ∧ Below w.heap.size w w' := by
  have := f22_any pv p w hp
  unfold PrintPost at this
  rw [h] at this
  exact this
theorem rpcall4 {p : Pr} {s : Bs} {e : Int} (h : printF p = (s, e)) (pv : Value) (w : World) (hp : Rules w pv p) : Calls Tryd.prog 23 #[.agg #[pv]] w fun en w' => en = .returned (.tuple #[.string (bsA s), .int .i64 e]) ∧ Below w.heap.size w w' := by
  have := f23_any pv p w hp
  unfold PrintPost at this
  rw [h] at this
  exact this
theorem pacall4 {s : Bs} {p : Pr} {n e : Int} (h : parseF s = (p, n, e)) (w : World) (hs : s.length ≤ 10000) (hl : Lay w) : Calls Tryd.prog 24 #[.string (bsA s)] w fun en w' => ∃ pv, en = .returned (.tuple #[.agg #[pv], .int .i64 n, .int .i64 e]) ∧ Rules w' pv p ∧ Below w.heap.size w w' := by
  have := f24_any s w (by omega) hl
  unfold ParsePost at this
  rw [h] at this
  exact this
theorem rpacall4 {s : Bs} {p : Pr} {n e : Int} (h : parseF s = (p, n, e)) (w : World) (hs : s.length ≤ 10000) : Calls Tryd.prog 25 #[.string (bsA s)] w fun en w' => ∃ pv, en = .returned (.tuple #[.agg #[pv], .int .i64 n, .int .i64 e]) ∧ Rules w' pv p ∧ Below w.heap.size w w' := by
  have := f25_any s w (by omega)
  unfold ParsePost at this
  rw [h] at this
  exact this
set_option maxRecDepth 100000 in
set_option maxHeartbeats 16000000 in
theorem f4_any (pv xv : Value) (p0 : Pr) (n : Nat) (S : Bs) (at_ c : Int) (w : World) (hlay : Lay w) (hp : Rules w pv p0) (hx : Fours w xv n) (hS : (S.length : Int) ≤ 9223372036854775807) (ha : I64 at_) (hc0 : 0 ≤ c) (hc1 : c < 256) :
    Calls Tryd.prog 4 #[.agg #[pv], xv, .string (bsA S), .int .i64 at_, .int .u8 c] w (LawPost w) := by
  obtain ⟨pa, pc, rfl⟩ := rules_slice4 hp
  have b0 : Below w.heap.size w (w.alloc (.cells #[.slice pa p0.length pc] 24)) := (Below.refl _ _).alloc (Nat.le_refl _) _
  have hcl0 : (w.alloc (.cells #[.slice pa p0.length pc] 24)).cell? ⟨w.heap.size, 0, none⟩ = some (.slice pa p0.length pc) := by go_simp
  have hm : min (S.length : Int) 300 = ((min S.length 300 : Nat) : Int) := by omega
  obtain ⟨m, hm1, hm2⟩ : ∃ m : Nat, m = min S.length 300 ∧ m ≤ S.length := ⟨_, rfl, by omega⟩
  have hsz : (bsA S).size = S.length := bsA_size S
  have htk : (bsA S).extract 0 m = bsA (S.take m) := bsA_take S m
  rw [← hm1] at hm
  have hT : (S.take m).length ≤ 300 := by rw [List.length_take]; omega
  obtain ⟨T0, hT0⟩ : ∃ T0, S.take m = T0 := ⟨_, rfl⟩
  rw [hT0] at htk hT
  have hmle : (m : Int) ≤ (S.length : Int) := by omega
  have HT := Lib.hid hT
  have HX := Lib.hid hx
  have HP := Lib.hid hp
  have HLAY := Lib.hid hlay
  have B0 := Lib.hid b0
  have HC0 := Lib.hid hcl0
  have HA := Lib.hid ha
  clear hx hp hlay b0 hcl0 ha hT hT0 hm1
  go_enter Tryd.func4, Tryd.ntmps4
  go_wp2_with fail
  refine (f10_any _ (HLAY.out.below B0.out)).mono ?_
  rintro e w1 ⟨rfl, hb1⟩
  have HB1 : Hid (Below w.heap.size w w1) := B0.out.trans (hb1.mono B0.out.size)
  have c1 : w1.cell? ⟨w.heap.size, 0, none⟩ = some (.slice pa p0.length pc) := keeps_of_below hb1 _ _ HC0.out
  have hlt0 : w.heap.size < w1.heap.size := World.block_lt_of_cell? _ _ c1
  clear hb1
  go_wp2_with fail
  obtain ⟨gT, hgT⟩ : ∃ g, g = w1.heap.size := ⟨_, rfl⟩
  obtain ⟨w2, hw2⟩ : ∃ W, W = w1.alloc (.cells #[.string (bsA T0)] 9) := ⟨_, rfl⟩
  have ht2 : w2.heap[gT]? = some (.cells #[.string (bsA T0)] 9 (0, 0)) := by rw [hw2, hgT]; exact World.alloc_heap_new _ _
  have b12 : Below w1.heap.size w1 w2 := by rw [hw2]; exact (Below.refl _ _).alloc (Nat.le_refl _) _
  have HB2 : Hid (Below w.heap.size w w2) := HB1.out.trans (b12.mono HB1.out.size)
  have hgw : w.heap.size ≤ gT := by rw [hgT]; exact HB1.out.size
  rw [← hw2, ← hgT]
  clear hw2 hgT b12 c1 hlt0
  refine (f12_any (.slice pa p0.length pc) p0 w2 (HP.out.below HB2.out)).mono ?_
  rintro e w3 ⟨v1, q1, rfl, hq1, hb3⟩
  obtain ⟨a1, k1, rfl⟩ := rules_slice4 hq1
  have HB3 : Hid (Below w.heap.size w w3) := HB2.out.trans (hb3.mono HB2.out.size)
  have ht3 := (hb3.block gT (heap_lt ht2)).trans ht2
  have HQ1 := Lib.hid hq1
  clear hq1 hb3 ht2
  go_wp2_with fail
  refine (f11_any xv n w3 (HX.out.below HB3.out)).mono ?_
  rintro e w4 ⟨v2, q2, rfl, hq2, _, hb4⟩
  obtain ⟨a2, k2, rfl⟩ := rules_slice4 hq2
  have HB4 : Hid (Below w.heap.size w w4) := HB3.out.trans (hb4.mono HB3.out.size)
  have ht4 := (hb4.block gT (heap_lt ht3)).trans ht3
  have HQ1' := Lib.hid (HQ1.out.below hb4)
  have HQ2 := Lib.hid hq2
  clear hq2 hb4 ht3 HQ1
  go_wp2_with fail
  obtain ⟨gA, hgA⟩ : ∃ g, g = w4.heap.size := ⟨_, rfl⟩
  obtain ⟨wA, hwA⟩ : ∃ W, W = w4.alloc (.cells #[.slice a1 q1.length k1, .slice a2 q2.length k2] 24) := ⟨_, rfl⟩
  have hcA : wA.cell? ⟨gA, 0, none⟩ = some (.slice a1 q1.length k1) ∧ wA.cell? ⟨gA, 1, none⟩ = some (.slice a2 q2.length k2) := by
    rw [hwA, hgA]; constructor <;> go_simp
  have bA : Below w4.heap.size w4 wA := by rw [hwA]; exact (Below.refl _ _).alloc (Nat.le_refl _) _
  rw [← hwA, ← hgA]
  have htA := (bA.block gT (heap_lt ht4)).trans ht4
  have hts : TxS wA gT [T0] (.slice (some ⟨gT, 0, none⟩) 1 1) wA :=
    ⟨⟨rfl, .inr ⟨gT, 1, _, rfl, Nat.le_refl _, htA, Nat.le_refl _, by decide, rfl, rfl⟩⟩, .inl rfl, fun a u h _ => h, fun t ht => by rw [List.mem_singleton.1 ht]; exact Nat.le_trans HT.out (by decide), Nat.le_refl _⟩
  have hgS : ∀ o u, wA.cell? ⟨gT, o, none⟩ = some u → ∃ t, u = .string t := fun o u hu => by
    rw [cell_of_row wA gT o _ _ _ htA] at hu
    cases o with
    | zero => exact ⟨bsA T0, by simpa using hu.symm⟩
    | succ o => simp at hu
  have hgTA : gT < wA.heap.size := heap_lt htA
  have HTS := Lib.hid hts
  have HGS := Lib.hid hgS
  have CA := Lib.hid hcA
  have HBA : Hid (Below w.heap.size w wA) := HB4.out.trans (bA.mono HB4.out.size)
  have R1 := Lib.hid (HQ1'.out.below bA)
  have R2 := Lib.hid (HQ2.out.below bA)
  have hgAw : w.heap.size ≤ wA.heap.size := HBA.out.size
  clear hts hgS hcA hwA hgA bA htA ht4 HQ1' HQ2 HB4 HB3 HB2 HB1 B0 HC0 HP HX
  go_loopw [11, 40] (fun v11 v40 wr => ∃ (k : Nat) (L : List Bs), v40 = .int .i64 k ∧ k ≤ 2 ∧ L.length ≤ 1 + 3 * k ∧ TxS wA gT L v11 wr ∧ Below w.heap.size w wr) (fun _ v40 _ => 2 - (intOf v40).toNat)
  case atStart => exact ⟨0, [T0], rfl, by omega, by simp, HTS.out, HBA.out⟩
  case round =>
    obtain ⟨k, L, rfl, hk, hL, hts, hbw⟩ := hrel
    obtain ⟨va, vc, rfl⟩ := own_slice hts.own
    have HTX := Lib.hid hts
    have HBW := Lib.hid hbw
    clear hts hbw
    by_cases hk2 : k = 2
    · have hk2' : ¬ (k : Int) < 2 := by omega
      clear hk2
      go_wp2_with fail
      clear HTS HGS CA R1 R2 hgAw hgTA
      go_loopw [19] (fun v19 wl => ∃ i : Nat, v19 = .int .i64 i ∧ i ≤ L.length ∧ Below wr.heap.size wr wl) (fun v19 _ => L.length - (intOf v19).toNat)
      case atStart => exact ⟨0, rfl, Nat.zero_le _, Below.refl _ _⟩
      case round =>
        obtain ⟨i, rfl, hi, hb⟩ := hrel
        have HBi := Lib.hid hb
        have HBt : Hid (Below w.heap.size w wr) := HBW.out.trans (hb.mono HBW.out.size)
        by_cases hil : i < L.length
        · obtain ⟨t, ht⟩ := get_some L i hil
          have htl := HTX.out.len t (List.mem_of_getElem? ht)
          obtain ⟨gg, rfl⟩ : ∃ g, va = some ⟨g, 0, none⟩ := by
            rcases HTX.out.own.2 with ⟨_, h0⟩ | ⟨g, cap, cur, h1, _⟩
            · omega
            · exact ⟨g, by simpa using (show va = some ⟨g, 0, none⟩ ∧ vc = cap by simpa using h1).1⟩
          have hci := HTX.out.own.cells (g := gg) rfl i (.string (bsA t)) (by unfold txC; rw [List.getElem?_map, ht]; rfl)
          rw [Addr.add_mid, Nat.zero_add] at hci
          have ci := keeps_of_below hb _ _ hci
          obtain ⟨p, pn, pe, hpa⟩ : ∃ p n e, parseF t = (p, n, e) := ⟨_, _, _, rfl⟩
          have HP1 := Lib.hid (fun W h => pacall4 hpa W htl h)
          have HP2 := Lib.hid (fun W => rpacall4 hpa W htl)
          have HSM := Lib.hid (fun (v u : Value) W h1 h2 => f26_any v u p p W h1 h2)
          have i0 : (0 : Int) ≤ (i : Int) := by omega
          have i1 : (i : Int) < (L.length : Int) := by omega
          clear ht hci hpa hb
          go_wp2_with fail
          refine (HP1.out _ (HLAY.out.below HBt.out)).mono ?_
          rintro e w5 ⟨u1, rfl, hu1, hb5⟩
          obtain ⟨x1, y1, rfl⟩ := rules_slice4 hu1
          have b6 : Below w5.heap.size w5 (w5.alloc (.cells #[.slice x1 p.length y1] 24)) := (Below.refl _ _).alloc (Nat.le_refl _) _
          have b56 : Below wr.heap.size wr (w5.alloc (.cells #[.slice x1 p.length y1] 24)) := hb5.trans (b6.mono hb5.size)
          have HU1 := Lib.hid (hu1.below b6)
          have ci6 := keeps_of_below b56 _ _ ci
          have HB6 := Lib.hid b56
          clear hu1 hb5
          go_wp2_with fail
          obtain ⟨bb, hbb⟩ : ∃ b, b = w5.heap.size := ⟨_, rfl⟩
          obtain ⟨w6, hw6⟩ : ∃ W, W = w5.alloc (.cells #[.slice x1 p.length y1] 24) := ⟨_, rfl⟩
          have cb : w6.cell? ⟨bb, 0, none⟩ = some (.slice x1 p.length y1) := by rw [hw6, hbb]; go_simp
          rw [← hw6] at HU1 HB6
          rw [← hw6, ← hbb]
          have CB := Lib.hid cb
          clear hw6 hbb b6 b56 ci6 ci cb
          refine (HP2.out w6).mono ?_
          rintro e w7 ⟨u2, rfl, hu2, hb7⟩
          obtain ⟨x2, y2, rfl⟩ := rules_slice4 hu2
          have b8 : Below w7.heap.size w7 (w7.alloc (.cells #[.slice x2 p.length y2] 24)) := (Below.refl _ _).alloc (Nat.le_refl _) _
          have b78 : Below w6.heap.size w6 (w7.alloc (.cells #[.slice x2 p.length y2] 24)) := hb7.trans (b8.mono hb7.size)
          have HU2 := Lib.hid (hu2.below b8)
          have HU1b := Lib.hid (HU1.out.below b78)
          have HB8 := Lib.hid (HB6.out.trans (b78.mono HB6.out.size))
          have cb8 := keeps_of_below b78 _ _ CB.out
          have cb7 := keeps_of_below hb7 _ _ CB.out
          have hbb7 : bb < w7.heap.size := World.block_lt_of_cell? _ _ cb7
          clear hu2 hb7 b8 b78 cb7
          go_wp2_with fail
          refine (HSM.out _ _ _ HU1b.out HU2.out).mono ?_
          rintro e w9 ⟨rfl, hb9⟩
          have HB9 := Lib.hid (HB8.out.trans (hb9.mono HB8.out.size))
          have dd : decide (p = p) = true := decide_eq_true rfl
          rw [dd]
          clear hb9
          go_wp2_with fail
          exact ⟨⟨i + 1, by go_num, by omega, HBi.out.trans (HB9.out.mono HBi.out.size)⟩, by simp only [intOf]; omega⟩
        · obtain rfl : i = L.length := by omega
          go_wp2_with fail
          go_ret
          exact ⟨rfl, HBt.out⟩
    · have hlt : (k : Int) < 2 := by omega
      have k0 : (0 : Int) ≤ (k : Int) := by omega
      obtain ⟨qa, qc, P, hP, hcell⟩ : ∃ (qa : Option Addr) (qc : Nat) (P : Pr), Rules wA (.slice qa P.length qc) P ∧ wA.cell? ⟨gA, k, none⟩ = some (.slice qa P.length qc) := by
        rcases Nat.lt_or_ge k 1 with h | h
        · obtain rfl : k = 0 := by omega
          exact ⟨a1, k1, q1, R1.out, CA.out.1⟩
        · obtain rfl : k = 1 := by omega
          exact ⟨a2, k2, q2, R2.out, CA.out.2⟩
      have c4 : wr.cell? ⟨gA, k, none⟩ = some (.slice qa P.length qc) := HTX.out.ns _ _ hcell (fun t h => by cases h)
      have b5 : Below wr.heap.size wr (wr.alloc (.cells #[.slice qa P.length qc] 24)) := (Below.refl _ _).alloc (Nat.le_refl _) _
      have HQ5 := Lib.hid ((HTX.out.ns.rules hP).below b5)
      have c5 : (wr.alloc (.cells #[.slice qa P.length qc] 24)).cell? ⟨wr.heap.size, 0, none⟩ = some (.slice qa P.length qc) := by go_simp
      have C5 := Lib.hid c5
      have B5 := Lib.hid b5
      obtain ⟨A, ae, hA⟩ : ∃ A ae, printF P = (A, ae) := ⟨_, _, rfl⟩
      have hAl := printF_any P
      rw [hA] at hAl
      simp only at hAl
      have HPC := Lib.hid (fun W h => pcall4 hA (.slice qa P.length qc) W h)
      have HRC := Lib.hid (fun W h => rpcall4 hA (.slice qa P.length qc) W h)
      clear hP hcell b5 c5 hA
      go_wp2_with fail
      refine (HPC.out _ HQ5.out).mono ?_
      rintro e w6 ⟨rfl, hb6⟩
      have HB6 := Lib.hid (B5.out.trans (hb6.mono B5.out.size))
      have HQ6 := Lib.hid (HQ5.out.below hb6)
      have c6 := keeps_of_below hb6 _ _ C5.out
      clear hb6
      go_wp2_with fail
      refine (HRC.out _ HQ6.out).mono ?_
      rintro e w7 ⟨rfl, hb7⟩
      have HB7 := Lib.hid (HB6.out.trans (hb7.mono HB6.out.size))
      have EA : (bsA A).toList = A := isE A
      have hzA : (bsA A).size = A.length := bsA_size A
      clear hb7 c6 HQ6 HQ5 HPC HRC c4
      obtain ⟨cap, w8, hcv1, hb8, hc8, hf8, hlt8⟩ := bytes_run A w7
      obtain ⟨gB, hgB⟩ : ∃ g, g = w7.heap.size := ⟨_, rfl⟩
      have htxb : ∀ j, (Value.slice va L.length vc).ownBlock = some j → j ≠ gB := fun j hj e => by
        have := ((HTX.out.below HB7.out).own.lt j hj).2
        omega
      have HTXB := Lib.hid htxb
      rw [← hgB] at hcv1 hc8 hf8 hlt8
      have HTX8 := Lib.hid ((HTX.out.below HB7.out).below hb8)
      have HBW8 : Hid (Below w.heap.size w w8) := HBW.out.trans ((HB7.out.trans (hb8.mono HB7.out.size)).mono HBW.out.size)
      have HC8 := Lib.hid hc8
      have hgBw : w.heap.size ≤ gB := by rw [hgB]; exact (HBW.out.trans (HB7.out.mono HBW.out.size)).size
      have hwAB : wA.heap.size ≤ gB := by rw [hgB]; exact Nat.le_trans HTX.out.size HB7.out.size
      obtain ⟨AA, hAA⟩ : ∃ X, A ++ A = X := ⟨_, rfl⟩
      obtain ⟨A3, hA3⟩ : ∃ X, AA ++ A = X := ⟨_, rfl⟩
      have lAA : AA.length ≤ 4000 := by rw [← hAA, List.length_append]; omega
      have lA3 : A3.length ≤ 6000 := by rw [← hA3, List.length_append]; omega
      have hz1 : ¬ 9223372036854775807 < A.length + A.length := by omega
      have hz2 : ¬ 9223372036854775807 < AA.length + A.length := by omega
      have hzAA : (bsA AA).size = AA.length := bsA_size AA
      have ha1 : bsA A ++ bsA A = bsA AA := by rw [app_bsA, bsA_data, hAA]
      have ha2 : bsA AA ++ bsA A = bsA A3 := by rw [app_bsA, bsA_data, hA3]
      obtain ⟨i9, HI9⟩ := part9
      clear hAA hA3 hb8 hc8 hgB HB6 HB7 B5 htxb
      by_cases hA0 : A.length = 0
      · have hA0i : ¬ 0 < A.length := by omega
        have hcv2 : (convert 44 9 (.slice (some ⟨gB, 0, none⟩) A.length cap)).run Tryd.prog w8 = .ok (.string (bsA A)) w8 :=
          run_convert_bytes_back (P := Tryd.prog) w8 44 9 5 ⟨gB, 0, none⟩ cap A Tryd.underlying44 Tryd.underlying5 Tryd.underlying9 (fun j hj => by omega)
        clear hA0 hf8
        have b9 : Below w8.heap.size w8 (w8.alloc (.cells #[.string (bsA A), .string (bsA A), .string (bsA A3)] 9)) := (Below.refl _ _).alloc (Nat.le_refl _) _
        have HTXa := Lib.hid (HTX8.out.below b9)
        have HBWa := Lib.hid (HBW8.out.trans (b9.mono HBW8.out.size))
        have hgTs : gT ≤ w8.heap.size := by have := HTX8.out.size; omega
        clear b9
        go_wp2_with ((at_builtin; refine wpList_append_own_at _ rfl (.tmp 74) (.tmp 83) 41 rfl gT 9 i9 (.string ⟨#[]⟩) 1 16 Tryd.underlying41 HI9.out.1 HI9.out.2.1 HI9.out.2.2.1 HI9.out.2.2.2 rfl (by decide) (.slice va L.length vc) L.length (txC L) rfl HTXa.out.own ⟨w8.heap.size, 0, none⟩ 3 3 [.string (bsA A), .string (bsA A), .string (bsA A3)] rfl rfl ?_ ?_ ?_ ?_ ?_ ?_))
        · exact new_cells w8 [.string (bsA A), .string (bsA A), .string (bsA A3)] 9 _ rfl
        · intro u hu
          simp only [List.mem_cons, List.not_mem_nil, or_false] at hu
          rcases hu with rfl | rfl | rfl <;> rfl
        · unfold maxLen; omega
        · omega
        · simp only [World.size_alloc]; omega
        · intro v' w' ho' hg' _ hv'
          have hadd := HTXa.out.add (N := [A, A, A3]) HGS.out ho' hg' (by rw [World.size_alloc]; exact hv') (fun t ht => by
            simp only [List.mem_cons, List.not_mem_nil, or_false] at ht
            rcases ht with rfl | rfl | rfl <;> omega)
          have hbw : Below w.heap.size w w' := HBWa.out.grown hg' HBWa.out.size (fun j e => by have := (HTXa.out.own.lt j e).1; omega)
          have HADD := Lib.hid hadd
          have HBWz := Lib.hid hbw
          obtain ⟨a8, c8, rfl⟩ := own_slice ho'
          clear ho' hg' hv' hadd hbw
          go_wp2_with fail
          exact ⟨⟨k + 1, L ++ [A, A, A3], by go_num, by omega, by rw [List.length_append]; simp only [List.length_cons, List.length_nil]; omega, HADD.out, HBWz.out⟩, by simp only [intOf]; omega⟩
      · have hA0i : 0 < A.length := by omega
        obtain ⟨kk, hkk, _, hqk⟩ := pick_nat at_ A.length (A.length : Int) rfl HA.out (by omega) (by omega)
        have HQK := Lib.hid hqk
        obtain ⟨bk, hbk⟩ := get_some A kk hkk
        have ck := HC8.out kk bk hbk
        have fk := hf8 kk hkk
        have kk0 : (0 : Int) ≤ (kk : Int) := by omega
        have kk1 : (kk : Int) < (A.length : Int) := by omega
        obtain ⟨w9, hw9⟩ : ∃ W, w8.setCell ⟨gB, kk, none⟩ (.int .u8 c) = W := ⟨_, rfl⟩
        have hg9 : w8.grownBy w9 (some gB) := by rw [← hw9]; exact grown_set (grownBel (Below.refl _ _) _) _ _
        obtain ⟨A2, hA2⟩ : ∃ X, A.set kk (UInt8.ofNat c.toNat) = X := ⟨_, rfl⟩
        have lA2 : A2.length = A.length := by rw [← hA2, List.length_set]
        have hcv2 : (convert 44 9 (.slice (some ⟨gB, 0, none⟩) A.length cap)).run Tryd.prog w9 = .ok (.string (bsA A2)) w9 := by
          rw [← lA2]
          refine run_convert_bytes_back (P := Tryd.prog) w9 44 9 5 ⟨gB, 0, none⟩ cap A2 Tryd.underlying44 Tryd.underlying5 Tryd.underlying9 (fun j hj => ?_)
          rw [Addr.add_mid, Nat.zero_add]
          by_cases hjk : j = kk
          · subst hjk
            have e : A2[j]'hj = UInt8.ofNat c.toNat := by
              have : A2[j]? = some (UInt8.ofNat c.toNat) := by rw [← hA2, List.getElem?_set_self (by omega)]
              simpa [List.getElem?_eq_getElem hj] using this
            rw [e, UInt8.toNat_ofNat', ← hw9]
            have hcc : ((c.toNat % 2 ^ 8 : Nat) : Int) = c := by omega
            rw [hcc]
            exact World.cell?_setCell_same _ _ _ ck
          · have e : A[j]? = some (A2[j]'hj) := by
              have : A2[j]? = A[j]? := by rw [← hA2, List.getElem?_set_ne (by omega)]
              rw [← this, List.getElem?_eq_getElem hj]
            have hcj := HC8.out j _ e
            rw [← hw9, World.cell?_setCell_other _ _ _ _ (by intro h; exact hjk (by simpa using h.symm))]
            exact hcj
        have HTX9 := Lib.hid (HTX8.out.other hg9 hwAB HTXB.out)
        have HBW9 : Hid (Below w.heap.size w w9) := by rw [← hw9]; exact HBW8.out.setCell (p := ⟨gB, kk, none⟩) hgBw _
        have hA2l : A2.length ≤ 2000 := by omega
        clear hf8 hqk hbk hg9 hA2 lA2
        have b9 : Below w9.heap.size w9 (w9.alloc (.cells #[.string (bsA A), .string (bsA A2), .string (bsA A3)] 9)) := (Below.refl _ _).alloc (Nat.le_refl _) _
        have HTXa := Lib.hid (HTX9.out.below b9)
        have HBWa := Lib.hid (HBW9.out.trans (b9.mono HBW9.out.size))
        have hgTs : gT ≤ w9.heap.size := by have := HTX9.out.size; omega
        clear b9
        go_wp2_with (first | (go_at_call 13; with_reducible refine (HQK.out _).mono ?_; rintro e w10 ⟨rfl, rfl⟩) | (at_builtin; refine wpList_append_own_at _ rfl (.tmp 74) (.tmp 83) 41 rfl gT 9 i9 (.string ⟨#[]⟩) 1 16 Tryd.underlying41 HI9.out.1 HI9.out.2.1 HI9.out.2.2.1 HI9.out.2.2.2 rfl (by decide) (.slice va L.length vc) L.length (txC L) rfl HTXa.out.own ⟨w9.heap.size, 0, none⟩ 3 3 [.string (bsA A), .string (bsA A2), .string (bsA A3)] rfl rfl ?_ ?_ ?_ ?_ ?_ ?_))
        · exact new_cells w9 [.string (bsA A), .string (bsA A2), .string (bsA A3)] 9 _ rfl
        · intro u hu
          simp only [List.mem_cons, List.not_mem_nil, or_false] at hu
          rcases hu with rfl | rfl | rfl <;> rfl
        · unfold maxLen; omega
        · omega
        · simp only [World.size_alloc]; omega
        · intro v' w' ho' hg' _ hv'
          have hadd := HTXa.out.add (N := [A, A2, A3]) HGS.out ho' hg' (by rw [World.size_alloc]; exact hv') (fun t ht => by
            simp only [List.mem_cons, List.not_mem_nil, or_false] at ht
            rcases ht with rfl | rfl | rfl <;> omega)
          have hbw : Below w.heap.size w w' := HBWa.out.grown hg' HBWa.out.size (fun j e => by have := (HTXa.out.own.lt j e).1; omega)
          have HADD := Lib.hid hadd
          have HBWz := Lib.hid hbw
          obtain ⟨a8, c8, rfl⟩ := own_slice ho'
          clear ho' hg' hv' hadd hbw
          go_wp2_with fail
          exact ⟨⟨k + 1, L ++ [A, A2, A3], by go_num, by omega, by rw [List.length_append]; simp only [List.length_cons, List.length_nil]; omega, HADD.out, HBWz.out⟩, by simp only [intOf]; omega⟩
end Go.Proofs.YteilaajjpjhijaaDoor
