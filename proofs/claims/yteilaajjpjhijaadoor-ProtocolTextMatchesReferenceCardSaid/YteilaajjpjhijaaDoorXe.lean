/- Walk of reachable. -/
import Derived.Test.YteilaajjpjhijaaDoorXd
import Derived.Test.YteilaajjpjhijaaDoorXc
namespace Go.Proofs.YteilaajjpjhijaaDoor
open Go.RowKit PSpec

theorem reach_one {p : Pr} {op : Int} {l : List Int} : reachB p op l 1 = true ↔ ∃ i x : Nat, i ≤ l.length ∧ x < 4 ∧ accB p op (insAt l i x) = true := by
  unfold reachB
  simp only [if_neg (show ¬ (1 = 0) by decide), if_pos, List.any_eq_true, List.mem_range, mem_ops4]
  constructor
  · rintro ⟨i, hi, x, hx, h⟩
    exact ⟨i, x.toNat, by omega, by have := hx.2; have := hx.1; omega, by rw [Int.toNat_of_nonneg hx.1]; exact h⟩
  · rintro ⟨i, x, hi, hx, h⟩
    exact ⟨i, by omega, x, ⟨by omega, by omega⟩, h⟩
theorem reach_two {p : Pr} {op : Int} {l : List Int} : reachB p op l 2 = true ↔ ∃ i x j y : Nat, i ≤ l.length ∧ x < 4 ∧ i ≤ j ∧ j ≤ l.length + 1 ∧ y < 4 ∧ accB p op (insAt (insAt l i x) j y) = true := by
  unfold reachB
  simp only [if_neg (show ¬ (2 = 0) by decide), if_neg (show ¬ (2 = 1) by decide), if_pos, List.any_eq_true, List.mem_range, mem_ops4, Bool.and_eq_true, decide_eq_true_eq]
  constructor
  · rintro ⟨i, hi, x, hx, j, hj, hij, y, hy, h⟩
    exact ⟨i, x.toNat, j, y.toNat, by omega, by have := hx.2; have := hx.1; omega, hij, by omega, by have := hy.2; have := hy.1; omega, by rw [Int.toNat_of_nonneg hx.1, Int.toNat_of_nonneg hy.1]; exact h⟩
  · rintro ⟨i, x, j, y, hi, hx, hij, hj, hy, h⟩
    exact ⟨i, by omega, x, ⟨by omega, by omega⟩, j, by omega, hij, y, ⟨by omega, by omega⟩, h⟩
theorem ins_ints_len {l : List Int} {k : Nat} {x : Int} {n : Nat} (h : k ≤ l.length) (hn : l.length ≤ n) : (insAt l k x).length ≤ n + 1 := by
  rw [insAt_len _ _ _ h]; omega
def ReachPost (p : Pr) (op : Int) (l : List Int) (many : Nat) (w : World) (e : Ending) (w' : World) : Prop := e = .returned (.bool (reachB p op l many)) ∧ Below w.heap.size w w'

set_option maxRecDepth 100000 in
set_option maxHeartbeats 4000000 in
theorem f27_zero (pv lv : Value) (p : Pr) (op : Int) (l : List Int) (w : World) (hp : Rules w pv p) (hl : Ints w lv l) :
    Calls Tryd.prog 27 #[.agg #[pv], .int .i64 op, lv, .int .i64 0] w (ReachPost p op l 0 w) := by
  have b0 : Below w.heap.size w (w.alloc (.cells #[pv] 24)) := (Below.refl _ _).alloc (Nat.le_refl _) _
  have HF := Lib.hid (f18_any pv lv p op l _ (hp.below b0) (hl.below b0))
  have B0 := Lib.hid b0
  clear hp hl b0
  go_enter Tryd.func27, Tryd.ntmps27
  go_wp2_with (go_at_call 18; refine HF.out.mono ?_; rintro e w1 ⟨rfl, hb⟩)
  go_ret
  exact ⟨rfl, B0.out.trans (hb.mono (by simp))⟩

set_option maxRecDepth 100000 in
set_option maxHeartbeats 4000000 in
theorem f27_one (pv lv : Value) (p : Pr) (op : Int) (l : List Int) (w : World) (hp : Rules w pv p) (hl : Ints w lv l) (hn : l.length ≤ 900) :
    Calls Tryd.prog 27 #[.agg #[pv], .int .i64 op, lv, .int .i64 1] w (ReachPost p op l 1 w) := by
  have b0 : Below w.heap.size w (w.alloc (.cells #[pv] 24)) := (Below.refl _ _).alloc (Nat.le_refl _) _
  have HP := Lib.hid (hp.below b0)
  have HL := Lib.hid (hl.below b0)
  have B0 := Lib.hid b0
  obtain ⟨la, lc, rfl, lz1, lz2, lz3, lz4⟩ := hl
  clear hp b0 lz3 lz4
  go_enter Tryd.func27, Tryd.ntmps27
  go_wp2_with fail
  go_loopw [9] (fun i wr => ∃ k : Nat, k ≤ l.length + 1 ∧ i = .int .i64 k ∧ (∀ i, i < k → ∀ x : Nat, x < 4 → accB p op (insAt l i x) = false) ∧ Below (w.heap.size + 1) (w.alloc (.cells #[pv] 24)) wr) (fun i _ => l.length + 1 - (intOf i).toNat)
  case atStart => exact ⟨0, Nat.zero_le _, rfl, fun i hi => absurd hi (Nat.not_lt_zero _), Below.refl _ _⟩
  case round =>
    obtain ⟨k, hk, rfl, hno, hb⟩ := hrel
    have HNO := Lib.hid hno
    have HB := Lib.hid hb
    clear hno hb
    by_cases hlt : k ≤ l.length
    · have dk : decide ((k : Int) ≤ (l.length : Int)) = true := by simp; omega
      go_wp2_with fail
      obtain ⟨wo, rfl⟩ : ∃ wo : World, wo = wr := ⟨_, rfl⟩
      go_loopw [10] (fun i wr => ∃ x : Nat, x ≤ 4 ∧ i = .int .i64 x ∧ (∀ y : Nat, y < x → accB p op (insAt l k y) = false) ∧ Below (w.heap.size + 1) (w.alloc (.cells #[pv] 24)) wr) (fun i _ => 4 - (intOf i).toNat)
      case atStart => exact ⟨0, Nat.zero_le _, rfl, fun i hi => absurd hi (Nat.not_lt_zero _), HB.out⟩
      case round =>
        obtain ⟨x, hx, rfl, hno, hb⟩ := hrel
        have HNX := Lib.hid hno
        have hsz : w.heap.size + 1 ≤ wr.heap.size := by have := hb.size; simpa using this
        have c0 : wr.cell? ⟨w.heap.size, 0, none⟩ = some pv := by rw [hb.cell (p := ⟨w.heap.size, 0, none⟩) (by simp)]; go_simp
        have HBX := Lib.hid hb
        have HI := Lib.hid (f28_any _ l k x wr (HL.out.below (hb.mono (by simp))) hlt (by omega))
        clear hno hb
        by_cases hxt : x < 4
        · have dx : decide ((x : Int) < 4) = true := by simp; omega
          have hx64 : I64 (x : Int) := by unfold I64; constructor <;> omega
          have HLEN : Hid ((insAt l k (x : Int)).length = l.length + 1) := insAt_len _ _ _ hlt
          obtain ⟨q, hq⟩ : ∃ q, accB p op (insAt l k x) = q := ⟨_, rfl⟩
          have hc18 : ∀ (W : World) (v : Value), Rules W pv p → Ints W v (insAt l k x) → Calls Tryd.prog 18 #[.agg #[pv], .int .i64 op, v] W (fun e w' => e = .returned (.bool q) ∧ Below W.heap.size W w') := fun W v h1 h2 => by rw [← hq]; exact f18_any pv v p op _ W h1 h2
          have HC := Lib.hid hc18
          have HQ := Lib.hid hq
          clear hq hc18
          cases q with
          | true =>
            go_wp2_with (first
              | (go_at_call 28; refine (HI.out hx64).mono ?_; rintro e w1 ⟨v, rfl, hv, hb1⟩; have HV := Lib.hid hv; have c1 := keeps_of_below hb1 _ _ c0; have HB1 := Lib.hid (HBX.out.trans (hb1.mono hsz)); obtain ⟨va, vc, rfl, z1, z2, z3, z4⟩ := hv; clear hb1 z1 z2 z3 z4)
              | (go_at_call 18; refine (HC.out _ _ (HP.out.below (HB1.out.mono (by simp))) HV.out).mono ?_; rintro e w2 ⟨rfl, hb2⟩))
            go_ret
            exact ⟨ret_bool (reach_one.2 ⟨k, x, hlt, hxt, HQ.out⟩).symm, B0.out.trans ((HB1.out.mono (by omega)).trans (hb2.mono (by have := HB1.out.size; simp at this; omega)))⟩
          | false =>
            go_wp2_with (first
              | (go_at_call 28; refine (HI.out hx64).mono ?_; rintro e w1 ⟨v, rfl, hv, hb1⟩; have HV := Lib.hid hv; have c1 := keeps_of_below hb1 _ _ c0; have HB1 := Lib.hid (HBX.out.trans (hb1.mono hsz)); obtain ⟨va, vc, rfl, z1, z2, z3, z4⟩ := hv; clear hb1 z1 z2 z3 z4)
              | (go_at_call 18; refine (HC.out _ _ (HP.out.below (HB1.out.mono (by simp))) HV.out).mono ?_; rintro e w2 ⟨rfl, hb2⟩))
            have HB2 : Hid (Below (w.heap.size + 1) (w.alloc (.cells #[pv] 24)) w2) := HB1.out.trans (hb2.mono (by have := HB1.out.size; simpa using this))
            clear hb2 c0 c1
            obtain ⟨wi, rfl⟩ : ∃ wi : World, wi = w2 := ⟨_, rfl⟩
            go_loopw [12] (fun i wr => i = .int .i64 k ∧ wr = wi) (fun _ _ => 0)
            case atStart => exact ⟨rfl, rfl⟩
            case round =>
              obtain ⟨rfl, rfl⟩ := hrel
              have dm : k ≤ (insAt l k (x : Int)).length := by rw [HLEN.out]; omega
              go_wp2_with fail
              exact ⟨⟨x + 1, by omega, by go_num, fun y hy => by
                rcases Nat.lt_succ_iff_lt_or_eq.1 hy with h | rfl
                · exact HNX.out y h
                · exact HQ.out, HB2.out⟩, by simp [intOf]; omega⟩
        · obtain rfl : x = 4 := by omega
          go_wp2_with fail
          exact ⟨⟨k + 1, by omega, by go_num, fun i hi y hy => by
            rcases Nat.lt_succ_iff_lt_or_eq.1 hi with h | rfl
            · exact HNO.out i h y hy
            · exact HNX.out y hy, HBX.out⟩, by simp [intOf]; omega⟩
    · obtain rfl : k = l.length + 1 := by omega
      have dk : decide (((l.length + 1 : Nat) : Int) ≤ (l.length : Int)) = false := by simp; omega
      have dk2 : decide (((l.length : Int) + 1) ≤ (l.length : Int)) = false := by simp; omega
      go_wp2_with fail
      go_ret
      refine ⟨ret_bool ?_, B0.out.trans (HB.out.mono (by omega))⟩
      cases h : reachB p op l 1
      · rfl
      · obtain ⟨i, x, hi, hx, ha⟩ := reach_one.1 h
        rw [HNO.out i (by omega) x hx] at ha
        simp at ha
set_option maxRecDepth 100000 in
set_option maxHeartbeats 4000000 in
theorem f27_two (pv lv : Value) (p : Pr) (op : Int) (l : List Int) (w : World) (hp : Rules w pv p) (hl : Ints w lv l) (hn : l.length ≤ 900) :
    Calls Tryd.prog 27 #[.agg #[pv], .int .i64 op, lv, .int .i64 2] w (ReachPost p op l 2 w) := by
  have b0 : Below w.heap.size w (w.alloc (.cells #[pv] 24)) := (Below.refl _ _).alloc (Nat.le_refl _) _
  have HP := Lib.hid (hp.below b0)
  have HL := Lib.hid (hl.below b0)
  have B0 := Lib.hid b0
  obtain ⟨la, lc, rfl, lz1, lz2, lz3, lz4⟩ := hl
  clear hp b0 lz3 lz4
  go_enter Tryd.func27, Tryd.ntmps27
  go_wp2_with fail
  go_loopw [9] (fun i wr => ∃ k : Nat, k ≤ l.length + 1 ∧ i = .int .i64 k ∧ (∀ i, i < k → ∀ x : Nat, x < 4 → ∀ j, i ≤ j → j ≤ l.length + 1 → ∀ y : Nat, y < 4 → accB p op (insAt (insAt l i x) j y) = false) ∧ Below (w.heap.size + 1) (w.alloc (.cells #[pv] 24)) wr) (fun i _ => l.length + 1 - (intOf i).toNat)
  case atStart => exact ⟨0, Nat.zero_le _, rfl, fun i hi => absurd hi (Nat.not_lt_zero _), Below.refl _ _⟩
  case round =>
    obtain ⟨k, hk, rfl, hno, hb⟩ := hrel
    have HNO := Lib.hid hno
    have HB := Lib.hid hb
    clear hno hb
    by_cases hlt : k ≤ l.length
    · have dk : decide ((k : Int) ≤ (l.length : Int)) = true := by simp; omega
      go_wp2_with fail
      obtain ⟨wo, rfl⟩ : ∃ wo : World, wo = wr := ⟨_, rfl⟩
      go_loopw [10] (fun i wr => ∃ x : Nat, x ≤ 4 ∧ i = .int .i64 x ∧ (∀ x' : Nat, x' < x → ∀ j, k ≤ j → j ≤ l.length + 1 → ∀ y : Nat, y < 4 → accB p op (insAt (insAt l k x') j y) = false) ∧ Below (w.heap.size + 1) (w.alloc (.cells #[pv] 24)) wr) (fun i _ => 4 - (intOf i).toNat)
      case atStart => exact ⟨0, Nat.zero_le _, rfl, fun i hi => absurd hi (Nat.not_lt_zero _), HB.out⟩
      case round =>
        obtain ⟨x, hx, rfl, hno, hb⟩ := hrel
        have HNX := Lib.hid hno
        have hsz : w.heap.size + 1 ≤ wr.heap.size := by have := hb.size; simpa using this
        have c0 : wr.cell? ⟨w.heap.size, 0, none⟩ = some pv := by rw [hb.cell (p := ⟨w.heap.size, 0, none⟩) (by simp)]; go_simp
        have HBX := Lib.hid hb
        have HI := Lib.hid (f28_any _ l k x wr (HL.out.below (hb.mono (by simp))) hlt (by omega))
        clear hno hb
        by_cases hxt : x < 4
        · have dx : decide ((x : Int) < 4) = true := by simp; omega
          have hx64 : I64 (x : Int) := by unfold I64; constructor <;> omega
          have HLEN : Hid ((insAt l k (x : Int)).length = l.length + 1) := insAt_len _ _ _ hlt
          go_wp2_with (first
            | (go_at_call 28; refine (HI.out hx64).mono ?_; rintro e w1 ⟨v, rfl, hv, hb1⟩; have HV := Lib.hid hv; have HB1 := Lib.hid (HBX.out.trans (hb1.mono hsz)); obtain ⟨va, vc, rfl, z1, z2, z3, z4⟩ := hv; clear hb1 z1 z2 z3 z4))
          clear c0 HI
          obtain ⟨wi, rfl⟩ : ∃ wi : World, wi = w1 := ⟨_, rfl⟩
          go_loopw [12] (fun i wr => ∃ m : Nat, k ≤ m ∧ m ≤ l.length + 2 ∧ i = .int .i64 m ∧ (∀ j, k ≤ j → j < m → ∀ y : Nat, y < 4 → accB p op (insAt (insAt l k x) j y) = false) ∧ Below (w.heap.size + 1) (w.alloc (.cells #[pv] 24)) wr ∧ Below wi.heap.size wi wr) (fun i _ => l.length + 2 - (intOf i).toNat)
          case atStart => exact ⟨k, Nat.le_refl _, by omega, rfl, fun j h1 h2 => absurd h1 (by omega), HB1.out, Below.refl _ _⟩
          case round =>
            obtain ⟨m, hkm, hm, rfl, hno, hb, hbi⟩ := hrel
            have HNM := Lib.hid hno
            have HBM := Lib.hid hb
            have HBI := Lib.hid hbi
            clear hno hb hbi
            by_cases hmt : m ≤ l.length + 1
            · have dm : m ≤ (insAt l k (x : Int)).length := by rw [HLEN.out]; omega
              go_wp2_with fail
              obtain ⟨wm, rfl⟩ : ∃ wm : World, wm = wr := ⟨_, rfl⟩
              go_loopw [13] (fun i wr => ∃ y : Nat, y ≤ 4 ∧ i = .int .i64 y ∧ (∀ y' : Nat, y' < y → accB p op (insAt (insAt l k x) m y') = false) ∧ Below (w.heap.size + 1) (w.alloc (.cells #[pv] 24)) wr ∧ Below wi.heap.size wi wr) (fun i _ => 4 - (intOf i).toNat)
              case atStart => exact ⟨0, Nat.zero_le _, rfl, fun i hi => absurd hi (Nat.not_lt_zero _), HBM.out, HBI.out⟩
              case round =>
                obtain ⟨y, hy, rfl, hno, hb, hbi⟩ := hrel
                have HNY := Lib.hid hno
                have hsz2 : w.heap.size + 1 ≤ wr.heap.size := by have := hb.size; simpa using this
                have c0 : wr.cell? ⟨w.heap.size, 0, none⟩ = some pv := by rw [hb.cell (p := ⟨w.heap.size, 0, none⟩) (by simp)]; go_simp
                have HBY := Lib.hid hb
                have HBI2 := Lib.hid hbi
                clear hno hb hbi
                by_cases hyt : y < 4
                · have dy : decide ((y : Int) < 4) = true := by simp; omega
                  have hy64 : I64 (y : Int) := by unfold I64; constructor <;> omega
                  obtain ⟨q, hq⟩ : ∃ q, accB p op (insAt (insAt l k x) m y) = q := ⟨_, rfl⟩
                  have hc18 : ∀ (W : World) (v : Value), Rules W pv p → Ints W v (insAt (insAt l k x) m y) → Calls Tryd.prog 18 #[.agg #[pv], .int .i64 op, v] W (fun e w' => e = .returned (.bool q) ∧ Below W.heap.size W w') := fun W v h1 h2 => by rw [← hq]; exact f18_any pv v p op _ W h1 h2
                  have HC := Lib.hid hc18
                  have HQ := Lib.hid hq
                  have HI2 := Lib.hid (f28_any _ (insAt l k x) m y wr.drew ((HV.out.below HBI2.out).below (Below.refl _ _).drew) (by rw [HLEN.out]; omega) (by rw [HLEN.out]; omega) hy64)
                  clear hq hc18
                  go_wp2_with fail
                  refine wp_region_ord [(0, true), (1, true), (2, true), (3, true), (4, true), (5, false), (6, false)] (fun w' => w'.cell? ⟨w.heap.size, 0, none⟩ = some pv)
                    (by kernel_rfl) (by kernel_rfl) rfl (by kernel_rfl) (fun _ _ d _ _ h => by cases d <;> exact h) c0 ?_
                  refine wpO_light _ rfl rfl _ (fun w' hS => by go_simp; rfl) ?_
                  refine wpO_light _ rfl rfl _ (fun w' hS => by go_simp; rfl) ?_
                  refine wpO_light _ rfl rfl _ (fun w' hS => by go_simp; rfl) ?_
                  go_simp
                  refine wpO_light _ rfl rfl _ (fun w' hS => by go_simp; rfl) ?_
                  refine wpO_light _ rfl rfl _ (fun w' hS => by go_simp; rfl) ?_
                  go_simp
                  refine wpO_heavy _ rfl rfl fun K' hK => ?_
                  go_simp
                  refine HI2.out.mono ?_
                  rintro e w3 ⟨v3, rfl, hv3, hb3⟩
                  have HB3 : Hid (Below (w.heap.size + 1) (w.alloc (.cells #[pv] 24)) w3) := HBY.out.trans (Below.trans (Below.refl _ _).drew (hb3.mono hsz2))
                  have HB3i : Hid (Below wi.heap.size wi w3) := HBI2.out.trans (Below.trans (Below.refl _ _).drew (hb3.mono HBI2.out.size))
                  have hsz3 : w.heap.size + 1 ≤ w3.heap.size := Nat.le_trans hsz2 hb3.size
                  refine hK _ _ ⟨keeps_of_below hb3 _ _ c0, ?_⟩
                  have HV3 := Lib.hid hv3
                  clear hK K' hb3 hv3
                  go_simp
                  refine wpO_heavy _ rfl rfl fun K' hK => ?_
                  go_simp
                  refine (HC.out _ _ (HP.out.below (HB3.out.mono (by simp))) HV3.out).mono ?_
                  rintro e w4 ⟨rfl, hb4⟩
                  have c4 : w4.cell? ⟨w.heap.size, 0, none⟩ = some pv := by
                    rw [(HB3.out.trans (hb4.mono hsz3)).cell (p := ⟨w.heap.size, 0, none⟩) (by simp)]; go_simp
                  refine hK _ _ ⟨c4, ?_⟩
                  have HB4 : Hid (Below (w.heap.size + 1) (w.alloc (.cells #[pv] 24)) w4) := HB3.out.trans (hb4.mono hsz3)
                  have HB4i : Hid (Below wi.heap.size wi w4) := HB3i.out.trans (hb4.mono HB3i.out.size)
                  clear hK K' hb4 c4
                  go_simp
                  refine wpO_nil ?_
                  cases q with
                  | true =>
                    go_wp2_with fail
                    go_ret
                    exact ⟨ret_bool (reach_two.2 ⟨k, x, m, y, hlt, hxt, hkm, hmt, hyt, HQ.out⟩).symm, B0.out.trans (HB4.out.mono (by omega))⟩
                  | false =>
                    go_wp2_with fail
                    exact ⟨⟨y + 1, by omega, by go_num, fun z hz => by
                      rcases Nat.lt_succ_iff_lt_or_eq.1 hz with h | rfl
                      · exact HNY.out z h
                      · exact HQ.out, HB4.out, HB4i.out⟩, by simp [intOf]; omega⟩
                · obtain rfl : y = 4 := by omega
                  go_wp2_with fail
                  exact ⟨⟨m + 1, by omega, by omega, by go_num, fun j h1 h2 z hz => by
                    rcases Nat.lt_succ_iff_lt_or_eq.1 h2 with h | rfl
                    · exact HNM.out j h1 h z hz
                    · exact HNY.out z hz, HBY.out, HBI2.out⟩, by simp [intOf]; omega⟩
            · obtain rfl : m = l.length + 2 := by omega
              have dm : decide (((l.length : Int) + 2) ≤ ((insAt l k (x : Int)).length : Int)) = false := by rw [HLEN.out]; simp
              go_wp2_with fail
              exact ⟨⟨x + 1, by omega, by go_num, fun z hz j h1 h2 y hy => by
                rcases Nat.lt_succ_iff_lt_or_eq.1 hz with h | rfl
                · exact HNX.out z h j h1 h2 y hy
                · exact HNM.out j h1 (by omega) y hy, HBM.out⟩, by simp [intOf]; omega⟩
        · obtain rfl : x = 4 := by omega
          go_wp2_with fail
          exact ⟨⟨k + 1, by omega, by go_num, fun i hi y hy j h1 h2 z hz => by
            rcases Nat.lt_succ_iff_lt_or_eq.1 hi with h | rfl
            · exact HNO.out i h y hy j h1 h2 z hz
            · exact HNX.out y hy j h1 h2 z hz, HBX.out⟩, by simp [intOf]; omega⟩
    · obtain rfl : k = l.length + 1 := by omega
      have dk : decide (((l.length + 1 : Nat) : Int) ≤ (l.length : Int)) = false := by simp; omega
      have dk2 : decide (((l.length : Int) + 1) ≤ (l.length : Int)) = false := by simp; omega
      go_wp2_with fail
      go_ret
      refine ⟨ret_bool ?_, B0.out.trans (HB.out.mono (by omega))⟩
      cases h : reachB p op l 2
      · rfl
      · obtain ⟨i, x, j, y, hi, hx, hij, hj, hy, ha⟩ := reach_two.1 h
        rw [HNO.out i (by omega) x hx j hij hj y hy] at ha
        simp at ha
/-- reachable computes reachB -/
theorem f27_any (pv lv : Value) (p : Pr) (op : Int) (l : List Int) (many : Nat) (w : World) (hp : Rules w pv p) (hl : Ints w lv l) (hn : l.length ≤ 900) (hm : many ≤ 2) :
    Calls Tryd.prog 27 #[.agg #[pv], .int .i64 op, lv, .int .i64 many] w (ReachPost p op l many w) := by
  obtain rfl | rfl | rfl : many = 0 ∨ many = 1 ∨ many = 2 := by omega
  · exact f27_zero pv lv p op l w hp hl
  · exact f27_one pv lv p op l w hp hl hn
  · exact f27_two pv lv p op l w hp hl hn
end Go.Proofs.YteilaajjpjhijaaDoor
